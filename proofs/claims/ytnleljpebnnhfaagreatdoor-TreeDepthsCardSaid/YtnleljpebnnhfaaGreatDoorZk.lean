/- The writer, Text. -/
import Derived.Test.YtnleljpebnnhfaaGreatDoorZd
import Derived.Test.YtnleljpebnnhfaaGreatDoorZj
import Derived.Lib.ItoaLen
import Derived.Defers
import Derived.Recover

set_option linter.unusedSimpArgs false
set_option linter.unusedVariables false
namespace Go.Proofs.YtnleljpebnnhfaaGreatDoor
open Go.RowKit
/-- The writer's block. -/
def WrB (A : Option Addr) (N c bm : Nat) (w : World) (b : Nat) (sz : Nat) : Prop :=
  w.heap[b]? = some (.cells #[.slice A N c, .int .i64 0, .bool false, .map (some bm), .int .i64 sz] 102 (0, 0))
theorem WrB.cells {A : Option Addr} {N c bm : Nat} {w : World} {b sz : Nat} (h : WrB A N c bm w b sz) :
    w.cell? ⟨b, 0, none⟩ = some (.slice A N c) ∧ w.cell? ⟨b, 2, none⟩ = some (.bool false) ∧ w.cell? ⟨b, 3, none⟩ = some (.map (some bm)) ∧ w.cell? ⟨b, 4, none⟩ = some (.int .i64 sz) ∧ w.frozen? ⟨b, 4, none⟩ = false := by
  unfold WrB at h
  refine ⟨?_, ?_, ?_, ?_, ?_⟩ <;> simp [World.cell?, World.frozen?, h]
theorem WrB.set {A : Option Addr} {N c bm : Nat} {w : World} {b sz : Nat} (h : WrB A N c bm w b sz) (s : Nat) : WrB A N c bm (w.setCell ⟨b, 4, none⟩ (.int .i64 s)) b s := by
  unfold WrB at h ⊢
  simp [World.setCell, Array.getElem?_modify, h]
theorem WrB.ext {A : Option Addr} {N c bm : Nat} {w w' : World} {b sz : Nat} (h : WrB A N c bm w b sz) (k : Ext w w') : WrB A N c bm w' b sz := k.heap h
theorem WrB.lt {A : Option Addr} {N c bm : Nat} {w : World} {b sz : Nat} (h : WrB A N c bm w b sz) : b < w.heap.size := (Array.getElem?_eq_some_iff.1 h).1
theorem WrB.chg {A : Option Addr} {N c bm : Nat} {w w' : World} {b sz : Nat} (h : WrB A N c bm w b sz) {S : Nat → Prop} (k : ChgS S w w') (hS : ¬ S b) : WrB A N c bm w' b sz := k.heap h hS
/-- The panic of a text that is too long. -/
def tooLong : Ending := .panicked [{ v := .iface 98 (.agg #[]), recovered := false }]
theorem add_ok (A : Option Addr) (N c bm b sz : Nat) (s : ByteArray) (w : World) (h : WrB A N c bm w b sz) (hl : sz + s.size ≤ 4000) :
    Calls Tryz.prog 105 #[.pointer (some ⟨b, 0, none⟩), .string s] w fun e w' => e = .returned (.string s) ∧ WrB A N c bm w' b (sz + s.size) ∧ ChgS (fun i => i = b) w w' := by
  obtain ⟨h0, h2, h3, h4, h5⟩ := h.cells
  have hset := h.set (sz + s.size)
  have HS := Lib.hid hset
  have e1 : (w.setCell ⟨b, 4, none⟩ (.int .i64 ((sz : Int) + s.size))).cell? ⟨b, 4, none⟩ = some (.int .i64 ((sz : Int) + s.size)) := hset.cells.2.2.2.1
  clear h h0 h2 h3 hset
  have hd : decide ((4000 : Int) < (sz : Int) + s.size) = false := by simp; omega
  go_enter Tryz.func105, Tryz.ntmps105
  go_wp2
  go_ret
  exact ⟨rfl, HS.out, (ChgS.refl (fun i => i = b) w).set (.inl rfl) _ _⟩
theorem add_long (A : Option Addr) (N c bm b sz : Nat) (s : ByteArray) (w : World) (h : WrB A N c bm w b sz) (hl : 4000 < sz + s.size) (hz : sz ≤ 4000) (hm : s.size ≤ 1000000) :
    Calls Tryz.prog 105 #[.pointer (some ⟨b, 0, none⟩), .string s] w fun e w' => e = tooLong ∧ ChgS (fun i => i = b) w w' := by
  obtain ⟨h0, h2, h3, h4, h5⟩ := h.cells
  have hset := h.set (sz + s.size)
  have e1 : (w.setCell ⟨b, 4, none⟩ (.int .i64 ((sz : Int) + s.size))).cell? ⟨b, 4, none⟩ = some (.int .i64 ((sz : Int) + s.size)) := hset.cells.2.2.2.1
  clear h h0 h2 h3 hset
  have hd : decide ((4000 : Int) < (sz : Int) + s.size) = true := by simp; omega
  go_enter Tryz.func105, Tryz.ntmps105
  go_wp2
  exact ⟨rfl, rfl, (ChgS.refl (fun i => i = b) w).set (.inl rfl) _ _⟩
/-- What add leaves. -/
def AddPost (A : Option Addr) (N c bm b sz : Nat) (s : ByteArray) (w : World) (e : Ending) (w' : World) : Prop :=
  ChgS (fun i => i = b) w w' ∧ ((sz + s.size ≤ 4000 ∧ e = .returned (.string s) ∧ WrB A N c bm w' b (sz + s.size)) ∨ (4000 < sz + s.size ∧ e = tooLong))
theorem add_any (A : Option Addr) (N c bm b sz : Nat) (s : ByteArray) (w : World) (h : WrB A N c bm w b sz) (hz : sz ≤ 4000) (hm : s.size ≤ 1000000) :
    Calls Tryz.prog 105 #[.pointer (some ⟨b, 0, none⟩), .string s] w (AddPost A N c bm b sz s w) := by
  by_cases hl : sz + s.size ≤ 4000
  · exact (add_ok A N c bm b sz s w h hl).mono fun e w' ⟨h1, h2, h3⟩ => ⟨h3, .inl ⟨hl, h1, h2⟩⟩
  · exact (add_long A N c bm b sz s w h (by omega) hz hm).mono fun e w' ⟨h1, h2⟩ => ⟨h2, .inr ⟨by omega, h1⟩⟩
/-- What the writing of a node leaves. -/
def NodePost (A : Option Addr) (N c bm b : Nat) (t : List UInt8) (named : List Nat) (m : List (Int × Bool)) (sz : Nat) (w : World) (e : Ending) (w' : World) : Prop :=
  ChgS (fun i => i = b ∨ i = bm) w w' ∧
  ((sz + t.length ≤ 4000 ∧ e = .returned (.string (bs t)) ∧ WrB A N c bm w' b (sz + t.length) ∧ ∃ m', MapIs iv Fits Value.bool w' bm m' ∧ ∀ x : Nat, look m' (x : Int) = (look m (x : Int)).map fun v => v || decide (x ∈ named)) ∨ (4000 < sz + t.length ∧ e = tooLong))
theorem keep2 {w W W' : World} {a1 a2 : Addr} {v1 v2 : Value} (h : Ext w W ∧ W.cell? a1 = some v1 ∧ W.cell? a2 = some v2) (k : Ext W W') : Ext w W' ∧ W'.cell? a1 = some v1 ∧ W'.cell? a2 = some v2 :=
  ⟨h.1.trans' k, k.cell h.2.1, k.cell h.2.2⟩
theorem nameText (n : Nd) : (⟨#[60]⟩ ++ n.label ++ ⟨#[32]⟩ ++ bs (Lib.itoa n.num) ++ ⟨#[62]⟩ : ByteArray) = bs (60 :: (lab n ++ 32 :: (Lib.itoa n.num ++ [62]))) := by
  apply ByteArray.ext
  apply Array.ext'
  simp [bs, lab, ByteArray.data_append]
set_option maxHeartbeats 1000000 in
theorem name_any (A : Option Addr) (N c bm b sz : Nat) (n : Nd) (vs : Value) (w : World) (hg : Gl w) (h : WrB A N c bm w b sz) (hz : sz ≤ 4000) (hlab : n.label.size ≤ 100)
    (h0 : -9223372036854775808 ≤ n.num) (h1 : n.num ≤ 9223372036854775807) (hsh : ∃ a l c, vs = .slice a l c) :
    Calls Tryz.prog 106 #[.pointer (some ⟨b, 0, none⟩), .agg #[.int .i64 n.kind, .int .i64 n.num, .string n.label, vs]] w (AddPost A N c bm b sz (bs (60 :: (lab n ++ 32 :: (Lib.itoa n.num ++ [62])))) w) := by
  have hsz : (bs (60 :: (lab n ++ 32 :: (Lib.itoa n.num ++ [62])))).size ≤ 1000000 := by
    have := Lib.itoa_length_le n.num h0 h1
    have h2 : (lab n).length = n.label.size := by unfold lab; rw [Array.length_toList]; rfl
    rw [bs_size]
    simp
    omega
  have HSZ := Lib.hid hsz
  have H := Lib.hid h
  have HG := Lib.hid hg
  obtain ⟨c0, c2, c3, c4, c5⟩ := h.cells
  obtain ⟨va, vl, vc, rfl⟩ := hsh
  obtain ⟨t1, ht1⟩ : ∃ t : ByteArray, t = ⟨#[60]⟩ ++ n.label := ⟨_, rfl⟩
  obtain ⟨t2, ht2⟩ : ∃ t : ByteArray, t = t1 ++ ⟨#[32]⟩ := ⟨_, rfl⟩
  obtain ⟨t3, ht3⟩ : ∃ t : ByteArray, t = t2 ++ bs (Lib.itoa n.num) := ⟨_, rfl⟩
  obtain ⟨t4, ht4⟩ : ∃ t : ByteArray, t = t3 ++ ⟨#[62]⟩ := ⟨_, rfl⟩
  have hil : (bs (Lib.itoa n.num)).size ≤ 21 := by rw [bs_size]; exact Lib.itoa_length_le n.num h0 h1
  have z1 : t1.size ≤ 200 := by rw [ht1, ByteArray.size_append]; have : (⟨#[60]⟩ : ByteArray).size = 1 := rfl; omega
  have z2 : t2.size ≤ 201 := by rw [ht2, ByteArray.size_append]; have : (⟨#[32]⟩ : ByteArray).size = 1 := rfl; omega
  have z3 : t3.size ≤ 222 := by rw [ht3, ByteArray.size_append]; omega
  have s1 : ∀ W, (Op.stringOp .add ⟨#[60]⟩ n.label).run Tryz.prog W = .ok (.string t1) W := fun W => by rw [ht1]; exact run_string_add_sum W _ _ (by have : (⟨#[60]⟩ : ByteArray).size = 1 := rfl; omega)
  have s2 : ∀ W, (Op.stringOp .add t1 ⟨#[32]⟩).run Tryz.prog W = .ok (.string t2) W := fun W => by rw [ht2]; exact run_string_add_sum W _ _ (by have : (⟨#[32]⟩ : ByteArray).size = 1 := rfl; omega)
  have s3 : ∀ W, (Op.stringOp .add t2 (bs (Lib.itoa n.num))).run Tryz.prog W = .ok (.string t3) W := fun W => by rw [ht3]; exact run_string_add_sum W _ _ (by omega)
  have s4 : ∀ W, (Op.stringOp .add t3 ⟨#[62]⟩).run Tryz.prog W = .ok (.string t4) W := fun W => by rw [ht4]; exact run_string_add_sum W _ _ (by have : (⟨#[62]⟩ : ByteArray).size = 1 := rfl; omega)
  have HT : Hid (t4 = bs (60 :: (lab n ++ 32 :: (Lib.itoa n.num ++ [62])))) := Lib.hid (by rw [ht4, ht3, ht2, ht1]; exact nameText n)
  clear ht1 ht2 ht3 ht4 hil z1 z2 z3
  have c2' : ∀ ob, (w.alloc ob).cell? ⟨b, 2, none⟩ = some (.bool false) := fun ob => ((Ext.rfl' w).alloc ob).cell c2
  clear h hg hsz c0 c2 c3 c4 c5
  go_enter Tryz.func106, Tryz.ntmps106
  go_wp2
  by_cases hbig : sz + t4.size ≤ 4000
  · have HB := Lib.hid hbig
    clear hbig
    go_region_with (first
      | (go_at_call 56; refine (itoa_any n.num h0 h1 _ (HG.out.ext (by first | exact (Ext.rfl' _).alloc _ | exact ((Ext.rfl' _).alloc _).drew))).mono ?_; rintro e w1 ⟨rfl, hx⟩; have k2 : w1.cell? ⟨w.heap.size, 2, none⟩ = some (.string n.label) := hx.cell (by simp); have HX := Lib.hid hx; clear hx)
      | (go_at_call 105; refine (add_ok A N c bm b sz t4 _ (H.out.ext ((((Ext.rfl' _).alloc _).drew).trans' HX.out)) HB.out).mono ?_; rintro e w2 ⟨rfl, hw, hc⟩; have HW := Lib.hid hw; have HC := Lib.hid hc; clear hw hc))
    all_goals
      go_wp2
      go_ret
      rw [← HT.out]
      exact ⟨((ChgS.of_ext ((((Ext.rfl' _).alloc _).drew).trans' HX.out)).trans (T := fun i => i = b) HC.out fun _ _ h => h), .inl ⟨HB.out, rfl, HW.out⟩⟩
  · have HB := Lib.hid hbig
    clear hbig
    refine wp_region_any (by kernel_rfl) ?_
    change wpAny _ _ _ _ _ _ _ (World.drew _)
    refine wpAny_take (i := 0) (v := ?_) rfl (by kernel_rfl) (by kernel_rfl) (by kernel_rfl) (fun _ _ _ h => h) (Or.inl ⟨by rfl, ?_⟩) ?_
    rotate_left
    · (intro w; go_simp) <;> with_reducible rfl
    refine wpAny_take (i := 1) (v := ?_) rfl (by kernel_rfl) (by kernel_rfl) (by kernel_rfl) (fun _ _ _ h => h) (Or.inl ⟨by rfl, ?_⟩) ?_
    rotate_left
    · (intro w; go_simp) <;> with_reducible rfl
    refine wpAny_take (i := 5) (v := ?_) rfl (by kernel_rfl) (by kernel_rfl) (by kernel_rfl) (fun _ _ _ h => h) (Or.inl ⟨by rfl, ?_⟩) ?_
    rotate_left
    · (intro w; go_simp) <;> with_reducible rfl
    refine wpAny_ready (rs := [2, 6]) (by kernel_rfl) (by simp) ?_
    refine AllReady.cons rfl (fun K hK => ?_) ?_
    · go_simp
      refine hK _ _ ?_
      clear hK K
      refine wpAny_take (i := 3) (v := ?_) rfl (by kernel_rfl) (by kernel_rfl) (by kernel_rfl) (fun _ _ _ h => h) (Or.inl ⟨by rfl, ?_⟩) ?_
      rotate_left
      · (intro w; go_simp) <;> with_reducible rfl
      refine wpAny_take (i := 4) (v := ?_) rfl (by kernel_rfl) (by kernel_rfl) (by kernel_rfl) (fun _ _ _ h => h) (Or.inl ⟨by rfl, ?_⟩) ?_
      rotate_left
      · (intro w; go_simp) <;> with_reducible rfl
      refine wpAny_ready (rs := [6]) (by kernel_rfl) (by simp) ?_
      refine AllReady.cons rfl (fun K hK => ?_) ?_
      · go_simp
        refine hK _ _ ?_
        clear hK K
        refine wpAny_ready (rs := [7]) (by kernel_rfl) (by simp) ?_
        refine AllReady.cons rfl (fun K hK => ?_) ?_
        · go_simp
          refine (itoa_any n.num h0 h1 _ (HG.out.ext (((Ext.rfl' _).alloc _).drew))).mono ?_
          rintro e w1 ⟨rfl, hx⟩
          have k2 : w1.cell? ⟨w.heap.size, 2, none⟩ = some (.string n.label) := hx.cell (by simp)
          have HX := Lib.hid hx
          clear hx
          refine hK _ _ ?_
          clear hK K
          refine wpAny_take (i := 8) (v := ?_) rfl (by kernel_rfl) (by kernel_rfl) (by kernel_rfl) (fun _ _ _ h => h) (Or.inl ⟨by rfl, ?_⟩) ?_
          rotate_left
          · (intro w; go_simp) <;> with_reducible rfl
          refine wpAny_take (i := 9) (v := ?_) rfl (by kernel_rfl) (by kernel_rfl) (by kernel_rfl) (fun _ _ _ h => h) (Or.inl ⟨by rfl, ?_⟩) ?_
          rotate_left
          · (intro w; go_simp) <;> with_reducible rfl
          refine wpAny_ready (rs := [10]) (by kernel_rfl) (by simp) ?_
          refine AllReady.cons rfl (fun K hK => ?_) ?_
          · go_simp
            refine (add_long A N c bm b sz t4 _ (H.out.ext ((((Ext.rfl' _).alloc _).drew).trans' HX.out)) (by have := HB.out; omega) hz (by rw [HT.out]; exact HSZ.out)).mono ?_
            unfold tooLong
            rintro e w2 ⟨rfl, hc⟩
            refine ⟨rfl, ?_⟩
            rw [← HT.out]
            exact ⟨((ChgS.of_ext ((((Ext.rfl' _).alloc _).drew).trans' HX.out)).trans (T := fun i => i = b) hc fun _ _ h => h), .inr ⟨by have := HB.out; omega, rfl⟩⟩
          · exact AllReady.nil
        · exact AllReady.nil
      · exact AllReady.nil
    · refine AllReady.cons rfl (fun K hK => ?_) ?_
      · go_simp
        refine hK _ _ ?_
        clear hK K
        refine wpAny_ready (rs := [2, 7]) (by kernel_rfl) (by simp) ?_
        refine AllReady.cons rfl (fun K hK => ?_) ?_
        · go_simp
          refine hK _ _ ?_
          clear hK K
          refine wpAny_take (i := 3) (v := ?_) rfl (by kernel_rfl) (by kernel_rfl) (by kernel_rfl) (fun _ _ _ h => h) (Or.inl ⟨by rfl, ?_⟩) ?_
          rotate_left
          · (intro w; go_simp) <;> with_reducible rfl
          refine wpAny_take (i := 4) (v := ?_) rfl (by kernel_rfl) (by kernel_rfl) (by kernel_rfl) (fun _ _ _ h => h) (Or.inl ⟨by rfl, ?_⟩) ?_
          rotate_left
          · (intro w; go_simp) <;> with_reducible rfl
          refine wpAny_ready (rs := [7]) (by kernel_rfl) (by simp) ?_
          refine AllReady.cons rfl (fun K hK => ?_) ?_
          · go_simp
            refine (itoa_any n.num h0 h1 _ (HG.out.ext (((Ext.rfl' _).alloc _).drew))).mono ?_
            rintro e w1 ⟨rfl, hx⟩
            have k2 : w1.cell? ⟨w.heap.size, 2, none⟩ = some (.string n.label) := hx.cell (by simp)
            have HX := Lib.hid hx
            clear hx
            refine hK _ _ ?_
            clear hK K
            refine wpAny_take (i := 8) (v := ?_) rfl (by kernel_rfl) (by kernel_rfl) (by kernel_rfl) (fun _ _ _ h => h) (Or.inl ⟨by rfl, ?_⟩) ?_
            rotate_left
            · (intro w; go_simp) <;> with_reducible rfl
            refine wpAny_take (i := 9) (v := ?_) rfl (by kernel_rfl) (by kernel_rfl) (by kernel_rfl) (fun _ _ _ h => h) (Or.inl ⟨by rfl, ?_⟩) ?_
            rotate_left
            · (intro w; go_simp) <;> with_reducible rfl
            refine wpAny_ready (rs := [10]) (by kernel_rfl) (by simp) ?_
            refine AllReady.cons rfl (fun K hK => ?_) ?_
            · go_simp
              refine (add_long A N c bm b sz t4 _ (H.out.ext ((((Ext.rfl' _).alloc _).drew).trans' HX.out)) (by have := HB.out; omega) hz (by rw [HT.out]; exact HSZ.out)).mono ?_
              unfold tooLong
              rintro e w2 ⟨rfl, hc⟩
              refine ⟨rfl, ?_⟩
              rw [← HT.out]
              exact ⟨((ChgS.of_ext ((((Ext.rfl' _).alloc _).drew).trans' HX.out)).trans (T := fun i => i = b) hc fun _ _ h => h), .inr ⟨by have := HB.out; omega, rfl⟩⟩
            · exact AllReady.nil
          · exact AllReady.nil
        · refine AllReady.cons rfl (fun K hK => ?_) ?_
          · go_simp
            refine (itoa_any n.num h0 h1 _ (HG.out.ext (((Ext.rfl' _).alloc _).drew))).mono ?_
            rintro e w1 ⟨rfl, hx⟩
            have k2 : w1.cell? ⟨w.heap.size, 2, none⟩ = some (.string n.label) := hx.cell (by simp)
            have HX := Lib.hid hx
            clear hx
            refine hK _ _ ?_
            clear hK K
            refine wpAny_ready (rs := [2]) (by kernel_rfl) (by simp) ?_
            refine AllReady.cons rfl (fun K hK => ?_) ?_
            · go_simp
              refine hK _ _ ?_
              clear hK K
              refine wpAny_take (i := 3) (v := ?_) rfl (by kernel_rfl) (by kernel_rfl) (by kernel_rfl) (fun _ _ _ h => h) (Or.inl ⟨by rfl, ?_⟩) ?_
              rotate_left
              · (intro w; go_simp) <;> with_reducible rfl
              refine wpAny_take (i := 4) (v := ?_) rfl (by kernel_rfl) (by kernel_rfl) (by kernel_rfl) (fun _ _ _ h => h) (Or.inl ⟨by rfl, ?_⟩) ?_
              rotate_left
              · (intro w; go_simp) <;> with_reducible rfl
              refine wpAny_take (i := 8) (v := ?_) rfl (by kernel_rfl) (by kernel_rfl) (by kernel_rfl) (fun _ _ _ h => h) (Or.inl ⟨by rfl, ?_⟩) ?_
              rotate_left
              · (intro w; go_simp) <;> with_reducible rfl
              refine wpAny_take (i := 9) (v := ?_) rfl (by kernel_rfl) (by kernel_rfl) (by kernel_rfl) (fun _ _ _ h => h) (Or.inl ⟨by rfl, ?_⟩) ?_
              rotate_left
              · (intro w; go_simp) <;> with_reducible rfl
              refine wpAny_ready (rs := [10]) (by kernel_rfl) (by simp) ?_
              refine AllReady.cons rfl (fun K hK => ?_) ?_
              · go_simp
                refine (add_long A N c bm b sz t4 _ (H.out.ext ((((Ext.rfl' _).alloc _).drew).trans' HX.out)) (by have := HB.out; omega) hz (by rw [HT.out]; exact HSZ.out)).mono ?_
                unfold tooLong
                rintro e w2 ⟨rfl, hc⟩
                refine ⟨rfl, ?_⟩
                rw [← HT.out]
                exact ⟨((ChgS.of_ext ((((Ext.rfl' _).alloc _).drew).trans' HX.out)).trans (T := fun i => i = b) hc fun _ _ h => h), .inr ⟨by have := HB.out; omega, rfl⟩⟩
              · exact AllReady.nil
            · exact AllReady.nil
          · exact AllReady.nil
      · exact AllReady.nil
end Go.Proofs.YtnleljpebnnhfaaGreatDoor

set_option linter.unusedSimpArgs false
set_option linter.unusedVariables false
namespace Go.Proofs.YtnleljpebnnhfaaGreatDoor
open Go.RowKit
/-- A row of strings that the call owns. -/
def OwnS (w : World) (base : Nat) (v : Value) (xs : List (List UInt8)) : Prop := w.ownsRow base 9 1 v xs.length (xs.map fun l => Value.string (bs l))
theorem OwnS.nil (w : World) (base : Nat) : OwnS w base (.slice none 0 0) [] := World.ownsRow_nil w base 9 1
theorem OwnS.shape {w : World} {base : Nat} {v : Value} {xs : List (List UInt8)} (h : OwnS w base v xs) : ∃ A c, v = .slice A xs.length c ∧ xs.length ≤ c := by
  rcases h.2 with ⟨rfl, hn⟩ | ⟨g, cap, cur, rfl, hb, hg, hcap, _⟩
  · rw [hn]; exact ⟨none, 0, rfl, by omega⟩
  · exact ⟨_, cap, rfl, hcap⟩
theorem OwnS.block {w : World} {base : Nat} {v : Value} {xs : List (List UInt8)} (h : OwnS w base v xs) {g : Nat} (hg : v.ownBlock = some g) : base ≤ g ∧ g < w.heap.size ∧ ∃ cur, w.heap[g]? = some (.cells cur 9 (0, 0)) := by
  rcases h.2 with ⟨rfl, _⟩ | ⟨g', cap, cur, rfl, hb, hg', _⟩
  · simp [Value.ownBlock] at hg
  · simp [Value.ownBlock] at hg
    subst hg
    exact ⟨hb, (Array.getElem?_eq_some_iff.1 hg').1, cur, hg'⟩
theorem OwnS.at {w : World} {base : Nat} {v : Value} {xs : List (List UInt8)} (h : OwnS w base v xs) (hp : 0 < xs.length) : ∃ g c, v = .slice (some ⟨g, 0, none⟩) xs.length c ∧ xs.length ≤ c ∧ g < w.heap.size ∧ ∀ j (hj : j < xs.length), w.cell? ⟨g, j, none⟩ = some (.string (bs xs[j])) := by
  have hc := h.cells (g := v.ownBlock.getD 0)
  rcases h.2 with ⟨rfl, hn⟩ | ⟨g, cap, cur, rfl, hb, hg, hcap, _⟩
  · omega
  · refine ⟨g, cap, rfl, hcap, (Array.getElem?_eq_some_iff.1 hg).1, fun j hj => ?_⟩
    have := hc rfl j (.string (bs xs[j])) (by simp [hj])
    rw [Addr.add_lit, Nat.zero_add] at this
    exact this
theorem ChgS.ownS {S : Nat → Prop} {a b : World} (h : ChgS S a b) {base : Nat} {v : Value} {xs : List (List UInt8)} (ho : OwnS a base v xs) (hs : ∀ g, v.ownBlock = some g → ¬ S g) : OwnS b base v xs := h.owns ho hs
theorem OwnS.ext {w w' : World} {base : Nat} {v : Value} {xs : List (List UInt8)} (h : OwnS w base v xs) (k : Ext w w') : OwnS w' base v xs :=
  (ChgS.of_ext (S := fun _ => False) k).ownS h fun _ _ => id
theorem info9 : (Tryz.prog.info? 9).map (fun i => (i.zero, i.size, i.bytes)) = some (some (.string ByteArray.empty), 1, 16) := by kernel_rfl
section
variable {ops : Array Oper} {rest : List Oper} {o : Oper} {a : Act} {Q : Exit → Act → World → Prop} {w : World}
/-- append of a string. -/
theorem wpList_app117 (hgd : o.guard = none) (s x : Operand) (ho : o.op = .call { callee := .builtin .append, args := #[s, x], argTypes := #[117, 117] })
    (base : Nat) (v : Value) (xs : List (List UInt8)) (hs : a.eval s = v) (hown : OwnS w base v xs) (ad : Addr) (c : Nat) (y : List UInt8) (hx : a.eval x = .slice (some ad) 1 c) (hc : w.cell? ad = some (.string (bs y))) (hlen : xs.length ≤ 1000000) (hbase : base ≤ w.heap.size)
    (h : ∀ v' w', OwnS w' base v' (xs ++ [y]) → w.grownBy w' v.ownBlock → (v'.ownBlock = v.ownBlock ∨ v'.ownBlock = some w.heap.size) → wpList Tryz.prog ops Q rest (a.put o.dst v') w') :
    wpList Tryz.prog ops Q (o :: rest) a w := by
  obtain ⟨i, hi, hzz⟩ := Option.map_eq_some_iff.1 info9
  simp only [Prod.mk.injEq] at hzz
  refine wpList_append_own_at (P := Tryz.prog) w hgd s x 117 ho base 9 i (.string ByteArray.empty) 1 16 (by kernel_rfl) hi hzz.1 hzz.2.1 hzz.2.2 rfl (by omega) v xs.length (xs.map fun l => Value.string (bs l)) hs hown ad 1 c [.string (bs y)] hx (by simp) ?_ ?_ (by simp only [maxLen]; omega) (by omega) hbase fun v' w' h1 h2 _ h4 => h v' w' ?_ h2 h4
  · intro j u hj
    match j, hj with
    | 0, hj =>
      simp at hj
      subst hj
      have : ad.add 0 = ad := by
        obtain ⟨b, o, p⟩ := ad
        cases p <;> simp [Addr.add]
      rw [this]; exact hc
  · intro u hu
    simp at hu
    subst hu; rfl
  · unfold OwnS
    simpa using h1
end
theorem join_glue (sep : List UInt8) : ∀ l : List (List UInt8), Lib.join l sep = glue sep l
  | [] => rfl
  | [a] => Lib.join_one a sep
  | a :: b :: l => by
    rw [glue, ← join_glue sep (b :: l), Lib.join_cons, Lib.join_cons]
    simp [Lib.joinTail]
end Go.Proofs.YtnleljpebnnhfaaGreatDoor

set_option linter.unusedSimpArgs false
set_option linter.unusedVariables false
namespace Go.Proofs.YtnleljpebnnhfaaGreatDoor
open Go.RowKit
/-- The open nodes. -/
def Opn (m : List (Int × Bool)) (within : List Nat) : Prop := ∀ x : Nat, (look m (x : Int)).isSome = true ↔ x ∈ within
/-- The parts of a tuple. -/
def partsOf (C : List Nd) (f : Nat) (within : List Nat) (i : Nat) : List (List UInt8 × List Nat) := (kids C i).map (txt C f within)
def bodyOf (C : List Nd) (f : Nat) (within : List Nat) (i : Nat) : List UInt8 := headOf (nd C i) ++ 40 :: (glue (sepOf (nd C i)) ((partsOf C f within i).map (·.1)) ++ [41])
def namedOf (C : List Nd) (f : Nat) (within : List Nat) (i : Nat) : List Nat := (partsOf C f within i).flatMap (·.2)
/-- What a writer keeps. -/
structure WrS (A : Option Addr) (N c bm b : Nat) (w0 : World) (w : World) (m : List (Int × Bool)) (sz : Nat) : Prop where
  ext : Ext w0 w
  blk : WrB A N c bm w b sz
  map : MapIs iv Fits Value.bool w bm m
  hb : w0.heap.size ≤ b ∧ w0.heap.size ≤ bm ∧ b ≠ bm
theorem WrS.of_ext {A : Option Addr} {N c bm b : Nat} {w0 w w' : World} {m : List (Int × Bool)} {sz : Nat} (h : WrS A N c bm b w0 w m sz) (k : Ext w w') : WrS A N c bm b w0 w' m sz := ⟨h.ext.trans' k, h.blk.ext k, h.map.ext k, h.hb⟩
theorem WrS.chg {A : Option Addr} {N c bm b : Nat} {w0 w w' : World} {m m' : List (Int × Bool)} {sz sz' : Nat} (h : WrS A N c bm b w0 w m sz) (k : ChgS (fun i => i = b ∨ i = bm) w w') (hb : WrB A N c bm w' b sz') (hm : MapIs iv Fits Value.bool w' bm m') : WrS A N c bm b w0 w' m' sz' :=
  ⟨k.extOf h.ext (by rintro i (rfl | rfl); exact h.hb.1; exact h.hb.2.1), hb, hm, h.hb⟩
/-- The contract of a node, as an assumption. -/
def NodeC (C : List Nd) (A : Option Addr) (N c bm b : Nat) (w0 : World) (f : Nat) (within : List Nat) : Prop :=
  ∀ (i : Nat) (w : World) (m : List (Int × Bool)) (sz : Nat), i < N → WrS A N c bm b w0 w m sz → sz ≤ 4000 → Opn m within →
    Calls Tryz.prog 84 #[.pointer (some ⟨b, 0, none⟩), .int .i64 i] w (NodePost A N c bm b (txt C f within i).1 (txt C f within i).2 m sz w)
theorem orMap (o : Option Bool) (x : Nat) (A B : List Nat) : ((o.map fun v => v || decide (x ∈ A)).map fun v => v || decide (x ∈ B)) = o.map fun v => v || decide (x ∈ A ++ B) := by
  cases o with
  | none => rfl
  | some v => simp [Bool.or_assoc]
theorem atom_size {s : ByteArray} (h : atomB s = true) : s.size ≤ 16 := by
  simp only [atomB, Bool.or_eq_true] at h
  rcases h with (h | h) | h
  · have e : s.data.toList = [124] := by rw [← Go.Lib.toList_data]; exact (by simpa only [barB, beq_iff_eq] using h)
    have := congrArg List.length e
    rw [Array.length_toList] at this
    have : s.size = 1 := this
    omega
  · have e : s.data.toList = [35] := by rw [← Go.Lib.toList_data]; exact (by simpa only [hashB, beq_iff_eq] using h)
    have := congrArg List.length e
    rw [Array.length_toList] at this
    have : s.size = 1 := this
    omega
  · exact ((wordB_iff s 97 122).1 h).2.1
theorem join_any (g k n : Nat) (xs : List (List UInt8)) (sep : List UInt8) (w : World) (hn : xs.length = n) (hcells : ∀ j (hj : j < xs.length), w.cell? ⟨g, j, none⟩ = some (.string (bs xs[j]))) (hg : g < w.heap.size) (hk : n ≤ k) (hN : n ≤ 1000000) (hl : (glue sep xs).length ≤ 1000000) :
    Calls Tryz.prog 115 #[.slice (some ⟨g, 0, none⟩) n k, .string (bs sep)] w fun e w' => e = .returned (.string (bs (glue sep xs))) ∧ Ext w w' := by
  subst hn
  have hmm : (xs.map bs).map (·.data.toList) = xs := by
    rw [List.map_map]
    conv => rhs; rw [← List.map_id xs]
    exact List.map_congr_left fun l _ => bs_list l
  have hsd : (bs sep).data.toList = sep := bs_list sep
  have := Tryz.strings_Join g 0 k (xs.map bs) (bs sep) w (fun j x hj => by
    simp only [List.getElem?_map, Option.map_eq_some_iff] at hj
    obtain ⟨l, hl, rfl⟩ := hj
    obtain ⟨hj, rfl⟩ := List.getElem?_eq_some_iff.1 hl
    rw [Nat.zero_add]
    exact hcells j hj) hg (by simp; omega) (by simpa using hk) (by rw [hmm, hsd, join_glue]; omega)
  rw [hmm, hsd, join_glue, List.length_map] at this
  exact this
theorem repeat_any (sep : List UInt8) (n : Nat) (w : World) (hs : sep.length = 1) (hn : n ≤ 1000000) :
    Calls Tryz.prog 114 #[.string (bs sep), .int .i64 (n : Int)] w fun e w' => e = .returned (.string (bs (Lib.repeatL sep n))) ∧ Ext w w' := by
  have := Tryz.strings_Repeat (bs sep) n w (by omega) (by rw [bs_size, hs]; omega)
  rw [bs_list] at this
  exact this
theorem bodyText (F : ByteArray) (hd mid : List UInt8) (hF : F = bs hd) : (F ++ ⟨#[40]⟩ ++ bs mid ++ ⟨#[41]⟩ : ByteArray) = bs (hd ++ 40 :: (mid ++ [41])) := by
  subst hF
  apply ByteArray.ext
  apply Array.ext'
  simp [bs, ByteArray.data_append]
/-- How long parts are together. -/
def sumL (l : List (List UInt8 × List Nat)) : Nat := (l.map (·.1.length)).sum
theorem sumL_append (a b : List (List UInt8 × List Nat)) : sumL (a ++ b) = sumL a + sumL b := by simp [sumL]
theorem sumL_take_le (l : List (List UInt8 × List Nat)) (k : Nat) : sumL (l.take k) ≤ sumL l := by
  conv => rhs; rw [← List.take_append_drop k l, sumL_append]
  omega
theorem body_length (C : List Nd) (f : Nat) (within : List Nat) (i : Nat) : (bodyOf C f within i).length = (headOf (nd C i)).length + sumL (partsOf C f within i) + ((partsOf C f within i).length - 1) + 2 := by
  have hs : (sepOf (nd C i)).length = 1 := by unfold sepOf; split <;> rfl
  simp only [bodyOf, List.length_append, List.length_cons, glue_length, List.length_nil, hs, List.map_map, List.length_map, sumL]
  have : (List.map (List.length ∘ fun x => x.1) (partsOf C f within i)) = (List.map (fun x => x.1.length) (partsOf C f within i)) := rfl
  rw [this]
  omega
/-- What holds while the parts are written. -/
structure TRun (C : List Nd) (A : Option Addr) (N c bm b : Nat) (w0 : World) (P : List (List UInt8 × List Nat)) (w1 : World) (m : List (Int × Bool)) (sz : Nat) (j : Nat) (va : Value) (wr : World) : Prop where
  own : OwnS wr w1.heap.size va ((P.take j).map (·.1))
  chg : ChgS (fun k => k = b ∨ k = bm) w1 wr
  le : sz + sumL (P.take j) ≤ 4000
  st : ∃ m', WrS A N c bm b w0 wr m' (sz + sumL (P.take j)) ∧ ∀ x : Nat, look m' (x : Int) = (look m (x : Int)).map fun v => v || decide (x ∈ (P.take j).flatMap (·.2))
set_option maxRecDepth 100000 in
set_option maxHeartbeats 1000000 in
theorem wtuple_any (C : List Nd) (hC : VG C) (A : Option Addr) (N c bm b : Nat) (hN : C.length = N) (w0 : World) (hg : Gl w0) (f : Nat) (within : List Nat) (IH : NodeC C A N c bm b w0 f within)
    (i : Nat) (w : World) (m : List (Int × Bool)) (sz : Nat) (hi : i < N) (hk : (nd C i).kind = 3) (hw : WrS A N c bm b w0 w m sz) (hz : sz ≤ 4000) (ho : Opn m within) (Aa : Option Addr) (ca : Nat) (hr : Rd iv w0 Aa (nd C i).args) (hca : (nd C i).args.length ≤ ca) :
    Calls Tryz.prog 107 #[.pointer (some ⟨b, 0, none⟩), .agg #[.int .i64 (nd C i).kind, .int .i64 (nd C i).num, .string (nd C i).label, .slice Aa (nd C i).args.length ca]] w
      (NodePost A N c bm b (bodyOf C f within i) (namedOf C f within i) m sz w) := by
  have hv := hC _ (nd_mem (i := i) (by omega))
  obtain ⟨hnum, hat, har⟩ := (valid_label hv).2.2.2.1 hk
  have har8 := valid_ar hv
  have hbl := body_length C f within i
  have hpl : (partsOf C f within i).length = (nd C i).args.length := by simp [partsOf, kids]
  obtain ⟨P, hP⟩ : ∃ P, P = partsOf C f within i := ⟨_, rfl⟩
  have hkid : ∀ j (hj : j < (nd C i).args.length), ∃ a : Nat, (nd C i).args[j] = (a : Int) ∧ a < N ∧ P[j]? = some (txt C f within a) := by
    intro j hj
    have hm := List.getElem_mem hj
    have hva := valid_args hv _ hm
    refine ⟨((nd C i).args[j]).toNat, by omega, by omega, ?_⟩
    rw [hP]
    simp [partsOf, kids, hj]
  rw [← hP] at hbl hpl
  have HIH := Lib.hid IH
  have HG := Lib.hid hg
  have HW := Lib.hid hw
  have HO := Lib.hid ho
  have HR := Lib.hid hr
  have HAT := Lib.hid hat
  have HBL := Lib.hid hbl
  have HPL := Lib.hid hpl
  have HP := Lib.hid hP
  have HKD := Lib.hid hkid
  have HB := Lib.hid hw.blk.lt
  have HBM := Lib.hid hw.map.lt
  clear IH hg hw ho hr hC hv hN hk hnum hat hbl hpl hP hkid
  go_enter Tryz.func107, Tryz.ntmps107
  go_wp2
  obtain ⟨w1, hw1⟩ : ∃ w1 : World, w1 = w.alloc (.cells #[.int .i64 (nd C i).kind, .int .i64 (nd C i).num, .string (nd C i).label, .slice Aa (nd C i).args.length ca] 46) := ⟨_, rfl⟩
  have HX1 : Hid (Ext w w1) := Lib.hid (by rw [hw1]; exact (Ext.rfl' _).alloc _)
  have HX : Hid (w1.heap[w.heap.size]? = some (.cells #[.int .i64 (nd C i).kind, .int .i64 (nd C i).num, .string (nd C i).label, .slice Aa (nd C i).args.length ca] 46 (0, 0))) := Lib.hid (by rw [hw1]; exact new_heap _ _ _ rfl)
  rw [← hw1]
  clear hw1
  go_loopw [5, 13] (fun v5 v13 wr => ∃ (j : Nat) (va : Value), j ≤ (nd C i).args.length ∧ v5 = va ∧ v13 = .int .i64 j ∧ TRun C A N c bm b w0 P w1 m sz j va wr) (fun _ v13 _ => (nd C i).args.length - (intOf v13).toNat)
  case atStart => exact ⟨0, _, by omega, rfl, rfl, by simpa using OwnS.nil _ _, ChgS.refl _ _, by simpa [sumL] using hz, m, by simpa [sumL] using HW.out.of_ext HX1.out, fun x => by simp⟩
  case round =>
    obtain ⟨j, va, hj, h5, rfl, R⟩ := hrel
    have h5' := h5.symm
    subst h5'
    clear h5
    by_cases hja : j < (nd C i).args.length
    · obtain ⟨a, hval, haN, hPa⟩ := HKD.out j hja
      obtain ⟨m', hst, hlk⟩ := R.st
      obtain ⟨b', o', hA', hc'⟩ := (HR.out.ext hst.ext).2 (by omega)
      have hc := hc' j hja
      rw [hval] at hc
      obtain ⟨A5, k5, rfl, hk5⟩ : ∃ A k, va = .slice A j k ∧ j ≤ k := by
        have hlj : ((P.take j).map (·.1)).length = j := by simp; have := HPL.out; omega
        have := R.own.shape
        rwa [hlj] at this
      have HRR := Lib.hid R
      have HST := Lib.hid hst
      have HLK := Lib.hid hlk
      have HPA := Lib.hid hPa
      have HVA := Lib.hid hval
      clear hc' hval R hst hlk hPa
      subst hA'
      go_wp2_with fail
      refine (HIH.out a _ m' _ haN HST.out HRR.out.le ?_).mono ?_
      · intro x
        rw [HLK.out x]
        simp [HO.out x]
      rintro e w5 ⟨hch, ⟨hle, rfl, hb5, m5, hm5, hlk5⟩ | ⟨hgt, rfl⟩⟩
      · have HCH := Lib.hid hch
        have HLE := Lib.hid hle
        have HB5 := Lib.hid hb5
        have HM5 := Lib.hid hm5
        have HLK5 := Lib.hid hlk5
        have hown5 := hch.ownS HRR.out.own (by
          rintro g hg (rfl | rfl)
          · have := (HRR.out.own.block hg).1; have := HX1.out.size; have := HB.out; omega
          · have := (HRR.out.own.block hg).1; have := HX1.out.size; have := HBM.out; omega)
        have HOWN := Lib.hid hown5
        have HS5 := Lib.hid (Nat.le_trans HRR.out.chg.size hch.size)
        clear hch hle hb5 hm5 hlk5 hown5 hc
        go_wp2_with (at_builtin; refine wpList_app117 rfl _ _ rfl w1.heap.size _ ((P.take j).map (·.1)) rfl (HOWN.out.ext ((Ext.rfl' _).alloc _)) ⟨w5.heap.size, 0, none⟩ 1 (txt C f within a).1 rfl (by simp) (by simp; omega) (by have := HS5.out; simp; omega) ?_)
        intro va' w6 own6 gr6 at6
        have C56 : ChgS (fun g => (Value.slice A5 j k5).ownBlock = some g) w5 w6 := ((ChgS.refl (fun g => (Value.slice A5 j k5).ownBlock = some g) w5).alloc _).grown gr6 fun i hi => .inl hi
        have hno : ∀ g, (Value.slice A5 j k5).ownBlock = some g → w1.heap.size ≤ g := fun g hg => (HRR.out.own.block hg).1
        have ht : P.take (j + 1) = P.take j ++ [txt C f within a] := by rw [List.take_add_one, HPA.out]; rfl
        have hs : sumL (P.take (j + 1)) = sumL (P.take j) + (txt C f within a).1.length := by rw [ht, sumL_append]; simp [sumL]
        have hx1 := HX1.out.size
        have hRun : TRun C A N c bm b w0 P w1 m sz (j + 1) va' w6 := by
          have hc15 := HRR.out.chg.trans HCH.out fun _ _ h => h
          have hC6 : ChgS (fun k => k = b ∨ k = bm) w1 w6 := hc15.trans (T := fun g => (Value.slice A5 j k5).ownBlock = some g) C56 fun g hg hb => by have := hno g hb; omega
          have hb6 : WrB A N c bm w6 b (sz + sumL (P.take (j + 1))) := by
            have := HB5.out.chg C56 (by intro h; have := hno _ h; have := HB.out; omega)
            rw [hs, ← Nat.add_assoc]; exact this
          have hm6 : MapIs iv Fits Value.bool w6 bm m5 := C56.map HM5.out (by intro h; have := hno _ h; have := HBM.out; omega)
          refine ⟨by rw [ht]; simpa using own6, hC6, by have := HLE.out; omega, m5, ⟨?_, hb6, hm6, HW.out.hb⟩, fun x => ?_⟩
          · exact hC6.extOf (HW.out.ext.trans' HX1.out) (by rintro g (rfl | rfl); exact HW.out.hb.1; exact HW.out.hb.2.1)
          · have hfl : (P.take (j + 1)).flatMap (·.2) = (P.take j).flatMap (·.2) ++ (txt C f within a).2 := by rw [ht]; simp
            rw [HLK5.out x, HLK.out x, hfl, orMap]
        have HRUN := Lib.hid hRun
        clear hRun hx1 hs ht hno C56 own6 gr6 at6
        go_wp2
        exact ⟨⟨j + 1, _, by omega, rfl, by go_num, HRUN.out⟩, by simp [intOf]; omega⟩
      · refine ⟨rfl, ?_, .inr ⟨?_, rfl⟩⟩
        · exact (ChgS.of_ext HX1.out).trans (T := fun i => i = b ∨ i = bm) (HRR.out.chg.trans hch fun _ _ h => h) fun _ _ h => h
        · have ht : P.take (j + 1) = P.take j ++ [txt C f within a] := by rw [List.take_add_one, HPA.out]; rfl
          have hs : sumL (P.take (j + 1)) = sumL (P.take j) + (txt C f within a).1.length := by rw [ht, sumL_append]; simp [sumL]
          have := sumL_take_le P (j + 1)
          have := HBL.out
          omega
    · obtain rfl : (nd C i).args.length = j := by omega
      have hPt : P.take (nd C i).args.length = P := List.take_of_length_le (by have := HPL.out; omega)
      obtain ⟨own, chg, le, m', st, lk⟩ := R
      rw [hPt] at own le st lk
      have hbox := chg.heap HX.out (by rintro (h | h) <;> have := HB.out <;> have := HBM.out <;> omega)
      have c2 : wr.cell? ⟨w.heap.size, 2, none⟩ = some (.string (nd C i).label) := by simp [World.cell?, hbox]
      obtain ⟨g5, k5, rfl, hk5, hg5, hcl5⟩ : ∃ g k, va = .slice (some ⟨g, 0, none⟩) (nd C i).args.length k ∧ (nd C i).args.length ≤ k ∧ g < wr.heap.size ∧ ∀ j (hj : j < (P.map (·.1)).length), wr.cell? ⟨g, j, none⟩ = some (.string (bs (P.map (·.1))[j])) := by
        have := own.at (by simp; have := HPL.out; omega)
        simp only [List.length_map, HPL.out] at this ⊢
        exact this
      have hown5 := (own.block (g := g5) rfl).1
      have HCL := Lib.hid hcl5
      have HG5 : Hid (w1.heap.size ≤ g5 ∧ g5 < wr.heap.size) := Lib.hid ⟨hown5, hg5⟩
      clear hcl5 hown5 hg5
      have OWN := Lib.hid own
      have CHG := Lib.hid chg
      have LE := Lib.hid le
      have ST := Lib.hid st
      have LK := Lib.hid lk
      clear own chg le st lk hPt hbox
      by_cases hp : isPair (nd C i) = true
      · have hp2 := hp
        simp only [isPair, Bool.and_eq_true, decide_eq_true_eq] at hp2
        have hA : ((nd C i).label.toList == [124]) = true := by rw [Go.Lib.toList_data]; exact beq_iff_eq.2 hp2.1
        have hB : (((nd C i).args.length : Int) == 2) = true := by have := hp2.2; simp; omega
        clear hp2
        have hF : Hid ((⟨#[]⟩ : ByteArray) = bs (headOf (nd C i))) := Lib.hid (by unfold headOf; rw [if_pos hp]; rfl)
        have hSp : Hid (sepOf (nd C i) = [124]) := Lib.hid (by unfold sepOf; rw [if_pos hp])
        have z0 : (⟨#[]⟩ : ByteArray).size ≤ 16 := by first | exact atom_size HAT.out | exact Nat.zero_le _
        obtain ⟨u1, hu1⟩ : ∃ t : ByteArray, t = ⟨#[]⟩ ++ ⟨#[40, 41]⟩ := ⟨_, rfl⟩
        obtain ⟨u2, hu2⟩ : ∃ t : ByteArray, t = u1 ++ bs (Lib.repeatL [124] ((nd C i).args.length - 1)) := ⟨_, rfl⟩
        obtain ⟨v1, hv1⟩ : ∃ t : ByteArray, t = ⟨#[]⟩ ++ ⟨#[40]⟩ := ⟨_, rfl⟩
        obtain ⟨v2, hv2⟩ : ∃ t : ByteArray, t = v1 ++ bs (glue [124] (P.map (·.1))) := ⟨_, rfl⟩
        obtain ⟨v3, hv3⟩ : ∃ t : ByteArray, t = v2 ++ ⟨#[41]⟩ := ⟨_, rfl⟩
        have HV3 : Hid (v3 = bs (bodyOf C f within i)) := Lib.hid (by rw [hv3, hv2, hv1, bodyText _ _ _ hF.out]; unfold bodyOf; rw [hSp.out, ← HP.out])
        have y1 : (⟨#[40, 41]⟩ : ByteArray).size = 2 := rfl
        have y2 : (⟨#[40]⟩ : ByteArray).size = 1 := rfl
        have y3 : (⟨#[41]⟩ : ByteArray).size = 1 := rfl
        have y4 : (bs (Lib.repeatL [124] ((nd C i).args.length - 1))).size = (nd C i).args.length - 1 := by rw [bs_size, Lib.repeatL_length]; simp
        have y5 : (bs (glue [124] (P.map (·.1)))).size = sumL P + ((nd C i).args.length - 1) := by
          rw [bs_size, glue_length]
          have := HPL.out
          simp [sumL, this, Function.comp_def]
        have z1 : u1.size = (⟨#[]⟩ : ByteArray).size + 2 := by rw [hu1, ByteArray.size_append, y1]
        have z2 : Hid (u2.size = (⟨#[]⟩ : ByteArray).size + 2 + ((nd C i).args.length - 1)) := Lib.hid (by rw [hu2, ByteArray.size_append, z1, y4])
        have z3 : v1.size = (⟨#[]⟩ : ByteArray).size + 1 := by rw [hv1, ByteArray.size_append, y2]
        have hle := LE.out
        have z4 : v2.size ≤ 10000 := by rw [hv2, ByteArray.size_append, z3, y5]; omega
        have s1 : ∀ W, (Op.stringOp .add ⟨#[]⟩ ⟨#[40, 41]⟩).run Tryz.prog W = .ok (.string u1) W := fun W => by rw [hu1]; exact run_string_add_sum W _ _ (by rw [y1]; omega)
        have s2 : ∀ W, (Op.stringOp .add u1 (bs (Lib.repeatL [124] ((nd C i).args.length - 1)))).run Tryz.prog W = .ok (.string u2) W := fun W => by rw [hu2]; exact run_string_add_sum W _ _ (by rw [z1, y4]; omega)
        have s3 : ∀ W, (Op.stringOp .add ⟨#[]⟩ ⟨#[40]⟩).run Tryz.prog W = .ok (.string v1) W := fun W => by rw [hv1]; exact run_string_add_sum W _ _ (by rw [y2]; omega)
        have s4 : ∀ W, (Op.stringOp .add v1 (bs (glue [124] (P.map (·.1))))).run Tryz.prog W = .ok (.string v2) W := fun W => by rw [hv2]; exact run_string_add_sum W _ _ (by rw [z3, y5]; omega)
        have s5 : ∀ W, (Op.stringOp .add v2 ⟨#[41]⟩).run Tryz.prog W = .ok (.string v3) W := fun W => by rw [hv3]; exact run_string_add_sum W _ _ (by rw [y3]; omega)
        have HFS : Hid ((⟨#[]⟩ : ByteArray).size = (headOf (nd C i)).length) := Lib.hid (by rw [hF.out, bs_size])
        have Z0 := Lib.hid z0
        have Y5 := Lib.hid y5
        clear hu1 hu2 hv1 hv2 hv3 y1 y2 y3 y4 y5 z0 z1 z3 z4 hle
        go_wp2
        go_quiet (fail)
        go_wp2_with fail
        rw [show (((nd C i).args.length : Int) - 1) = (((nd C i).args.length - 1 : Nat) : Int) by omega]
        refine (repeat_any [124] ((nd C i).args.length - 1) _ rfl (by omega)).mono ?_
        rintro e w3 ⟨rfl, hx3⟩
        have HX3 := Lib.hid hx3
        clear hx3
        go_wp2_with fail
        refine (add_any A N c bm b (sz + sumL P) u2 w3 ((ST.out.blk.ext (Ext.of_drewN _ _)).ext HX3.out) LE.out (by rw [z2.out]; have := Z0.out; omega)).mono ?_
        rintro e w4 ⟨hc4, ⟨hle4, rfl, hb4⟩ | ⟨hgt, rfl⟩⟩
        · have HC4 : Hid (ChgS (fun j => j = b) wr w4) := Lib.hid ((ChgS.of_ext ((Ext.of_drewN wr _).trans' HX3.out)).trans (T := fun j => j = b) hc4 fun _ _ h => h)
          have HLE4 := Lib.hid hle4
          have HB4 := Lib.hid hb4
          clear hc4 hle4 hb4
          go_wp2_with fail
          refine (join_any g5 k5 (nd C i).args.length (P.map (·.1)) [124] w4 (by simpa using HPL.out) (fun j hj => HC4.out.cell (HCL.out j hj) ?_) ?_ hk5 (by omega) (by have := Y5.out; rw [bs_size] at this; have := LE.out; omega)).mono ?_
          · show ¬ g5 = b
            have := HG5.out.1; have := HX1.out.size; have := HB.out; omega
          · have := HG5.out.2; have := HC4.out.size; omega
          rintro e w5 ⟨rfl, hx5⟩
          have HX5 := Lib.hid hx5
          clear hx5
          go_wp2
          go_ret
          rw [HV3.out]
          have hC : ChgS (fun j => j = b ∨ j = bm) w w5 := ((ChgS.of_ext HX1.out).trans (T := fun i => i = b ∨ i = bm) (CHG.out.trans (HC4.out.ext HX5.out) fun _ _ h => .inl h) fun _ _ h => h)
          have hlen : sz + (bodyOf C f within i).length = sz + sumL P + u2.size := by
            have := HBL.out; have := HPL.out; have := z2.out; have := HFS.out
            omega
          refine ⟨hC, .inl ⟨by rw [hlen]; exact HLE4.out, rfl, by rw [hlen]; exact HB4.out.ext HX5.out, m', ?_, ?_⟩⟩
          · exact (HC4.out.map ST.out.map (fun h => HW.out.hb.2.2 h.symm)).ext HX5.out
          · intro x
            rw [LK.out x]
            unfold namedOf
            rw [← HP.out]
        · have hlen : sz + (bodyOf C f within i).length = sz + sumL P + u2.size := by
            have := HBL.out; have := HPL.out; have := z2.out; have := HFS.out
            omega
          refine ⟨rfl, ?_, .inr ⟨by rw [hlen]; exact hgt, rfl⟩⟩
          exact (ChgS.of_ext HX1.out).trans (T := fun i => i = b ∨ i = bm) (CHG.out.trans ((ChgS.of_ext ((Ext.of_drewN wr _).trans' HX3.out)).trans (T := fun j => j = b) hc4 fun _ _ h => h) fun _ _ h => .inl h) fun _ _ h => h
      · have hp2 := hp
        simp only [isPair, Bool.and_eq_true, decide_eq_true_eq] at hp2
        by_cases hl : lab (nd C i) = [124]
        · have hA : ((nd C i).label.toList == [124]) = true := by rw [Go.Lib.toList_data]; exact beq_iff_eq.2 hl
          have hB : (((nd C i).args.length : Int) == 2) = false := by
            have : ¬ (nd C i).args.length = 2 := fun h => hp2 ⟨hl, h⟩
            simp; omega
          clear hp2 hl
          have hF : Hid (((nd C i).label : ByteArray) = bs (headOf (nd C i))) := Lib.hid (by unfold headOf; rw [if_neg hp]; exact (bs_lab _).symm)
          have hSp : Hid (sepOf (nd C i) = [32]) := Lib.hid (by unfold sepOf; rw [if_neg hp])
          have z0 : ((nd C i).label : ByteArray).size ≤ 16 := by first | exact atom_size HAT.out | exact Nat.zero_le _
          obtain ⟨u1, hu1⟩ : ∃ t : ByteArray, t = (nd C i).label ++ ⟨#[40, 41]⟩ := ⟨_, rfl⟩
          obtain ⟨u2, hu2⟩ : ∃ t : ByteArray, t = u1 ++ bs (Lib.repeatL [32] ((nd C i).args.length - 1)) := ⟨_, rfl⟩
          obtain ⟨v1, hv1⟩ : ∃ t : ByteArray, t = (nd C i).label ++ ⟨#[40]⟩ := ⟨_, rfl⟩
          obtain ⟨v2, hv2⟩ : ∃ t : ByteArray, t = v1 ++ bs (glue [32] (P.map (·.1))) := ⟨_, rfl⟩
          obtain ⟨v3, hv3⟩ : ∃ t : ByteArray, t = v2 ++ ⟨#[41]⟩ := ⟨_, rfl⟩
          have HV3 : Hid (v3 = bs (bodyOf C f within i)) := Lib.hid (by rw [hv3, hv2, hv1, bodyText _ _ _ hF.out]; unfold bodyOf; rw [hSp.out, ← HP.out])
          have y1 : (⟨#[40, 41]⟩ : ByteArray).size = 2 := rfl
          have y2 : (⟨#[40]⟩ : ByteArray).size = 1 := rfl
          have y3 : (⟨#[41]⟩ : ByteArray).size = 1 := rfl
          have y4 : (bs (Lib.repeatL [32] ((nd C i).args.length - 1))).size = (nd C i).args.length - 1 := by rw [bs_size, Lib.repeatL_length]; simp
          have y5 : (bs (glue [32] (P.map (·.1)))).size = sumL P + ((nd C i).args.length - 1) := by
            rw [bs_size, glue_length]
            have := HPL.out
            simp [sumL, this, Function.comp_def]
          have z1 : u1.size = ((nd C i).label : ByteArray).size + 2 := by rw [hu1, ByteArray.size_append, y1]
          have z2 : Hid (u2.size = ((nd C i).label : ByteArray).size + 2 + ((nd C i).args.length - 1)) := Lib.hid (by rw [hu2, ByteArray.size_append, z1, y4])
          have z3 : v1.size = ((nd C i).label : ByteArray).size + 1 := by rw [hv1, ByteArray.size_append, y2]
          have hle := LE.out
          have z4 : v2.size ≤ 10000 := by rw [hv2, ByteArray.size_append, z3, y5]; omega
          have s1 : ∀ W, (Op.stringOp .add (nd C i).label ⟨#[40, 41]⟩).run Tryz.prog W = .ok (.string u1) W := fun W => by rw [hu1]; exact run_string_add_sum W _ _ (by rw [y1]; omega)
          have s2 : ∀ W, (Op.stringOp .add u1 (bs (Lib.repeatL [32] ((nd C i).args.length - 1)))).run Tryz.prog W = .ok (.string u2) W := fun W => by rw [hu2]; exact run_string_add_sum W _ _ (by rw [z1, y4]; omega)
          have s3 : ∀ W, (Op.stringOp .add (nd C i).label ⟨#[40]⟩).run Tryz.prog W = .ok (.string v1) W := fun W => by rw [hv1]; exact run_string_add_sum W _ _ (by rw [y2]; omega)
          have s4 : ∀ W, (Op.stringOp .add v1 (bs (glue [32] (P.map (·.1))))).run Tryz.prog W = .ok (.string v2) W := fun W => by rw [hv2]; exact run_string_add_sum W _ _ (by rw [z3, y5]; omega)
          have s5 : ∀ W, (Op.stringOp .add v2 ⟨#[41]⟩).run Tryz.prog W = .ok (.string v3) W := fun W => by rw [hv3]; exact run_string_add_sum W _ _ (by rw [y3]; omega)
          have HFS : Hid (((nd C i).label : ByteArray).size = (headOf (nd C i)).length) := Lib.hid (by rw [hF.out, bs_size])
          have Z0 := Lib.hid z0
          have Y5 := Lib.hid y5
          clear hu1 hu2 hv1 hv2 hv3 y1 y2 y3 y4 y5 z0 z1 z3 z4 hle
          go_wp2
          go_quiet (fail)
          go_wp2_with fail
          rw [show (((nd C i).args.length : Int) - 1) = (((nd C i).args.length - 1 : Nat) : Int) by omega]
          refine (repeat_any [32] ((nd C i).args.length - 1) _ rfl (by omega)).mono ?_
          rintro e w3 ⟨rfl, hx3⟩
          have HX3 := Lib.hid hx3
          clear hx3
          go_wp2_with fail
          refine (add_any A N c bm b (sz + sumL P) u2 w3 ((ST.out.blk.ext (Ext.of_drewN _ _)).ext HX3.out) LE.out (by rw [z2.out]; have := Z0.out; omega)).mono ?_
          rintro e w4 ⟨hc4, ⟨hle4, rfl, hb4⟩ | ⟨hgt, rfl⟩⟩
          · have HC4 : Hid (ChgS (fun j => j = b) wr w4) := Lib.hid ((ChgS.of_ext ((Ext.of_drewN wr _).trans' HX3.out)).trans (T := fun j => j = b) hc4 fun _ _ h => h)
            have HLE4 := Lib.hid hle4
            have HB4 := Lib.hid hb4
            clear hc4 hle4 hb4
            go_wp2_with fail
            refine (join_any g5 k5 (nd C i).args.length (P.map (·.1)) [32] w4 (by simpa using HPL.out) (fun j hj => HC4.out.cell (HCL.out j hj) ?_) ?_ hk5 (by omega) (by have := Y5.out; rw [bs_size] at this; have := LE.out; omega)).mono ?_
            · show ¬ g5 = b
              have := HG5.out.1; have := HX1.out.size; have := HB.out; omega
            · have := HG5.out.2; have := HC4.out.size; omega
            rintro e w5 ⟨rfl, hx5⟩
            have HX5 := Lib.hid hx5
            clear hx5
            go_wp2
            go_ret
            rw [HV3.out]
            have hC : ChgS (fun j => j = b ∨ j = bm) w w5 := ((ChgS.of_ext HX1.out).trans (T := fun i => i = b ∨ i = bm) (CHG.out.trans (HC4.out.ext HX5.out) fun _ _ h => .inl h) fun _ _ h => h)
            have hlen : sz + (bodyOf C f within i).length = sz + sumL P + u2.size := by
              have := HBL.out; have := HPL.out; have := z2.out; have := HFS.out
              omega
            refine ⟨hC, .inl ⟨by rw [hlen]; exact HLE4.out, rfl, by rw [hlen]; exact HB4.out.ext HX5.out, m', ?_, ?_⟩⟩
            · exact (HC4.out.map ST.out.map (fun h => HW.out.hb.2.2 h.symm)).ext HX5.out
            · intro x
              rw [LK.out x]
              unfold namedOf
              rw [← HP.out]
          · have hlen : sz + (bodyOf C f within i).length = sz + sumL P + u2.size := by
              have := HBL.out; have := HPL.out; have := z2.out; have := HFS.out
              omega
            refine ⟨rfl, ?_, .inr ⟨by rw [hlen]; exact hgt, rfl⟩⟩
            exact (ChgS.of_ext HX1.out).trans (T := fun i => i = b ∨ i = bm) (CHG.out.trans ((ChgS.of_ext ((Ext.of_drewN wr _).trans' HX3.out)).trans (T := fun j => j = b) hc4 fun _ _ h => h) fun _ _ h => .inl h) fun _ _ h => h
        · have hA : ((nd C i).label.toList == [124]) = false := by rw [Go.Lib.toList_data]; exact beq_eq_false_iff_ne.2 hl
          clear hp2 hl
          have hF : Hid (((nd C i).label : ByteArray) = bs (headOf (nd C i))) := Lib.hid (by unfold headOf; rw [if_neg hp]; exact (bs_lab _).symm)
          have hSp : Hid (sepOf (nd C i) = [32]) := Lib.hid (by unfold sepOf; rw [if_neg hp])
          have z0 : ((nd C i).label : ByteArray).size ≤ 16 := by first | exact atom_size HAT.out | exact Nat.zero_le _
          obtain ⟨u1, hu1⟩ : ∃ t : ByteArray, t = (nd C i).label ++ ⟨#[40, 41]⟩ := ⟨_, rfl⟩
          obtain ⟨u2, hu2⟩ : ∃ t : ByteArray, t = u1 ++ bs (Lib.repeatL [32] ((nd C i).args.length - 1)) := ⟨_, rfl⟩
          obtain ⟨v1, hv1⟩ : ∃ t : ByteArray, t = (nd C i).label ++ ⟨#[40]⟩ := ⟨_, rfl⟩
          obtain ⟨v2, hv2⟩ : ∃ t : ByteArray, t = v1 ++ bs (glue [32] (P.map (·.1))) := ⟨_, rfl⟩
          obtain ⟨v3, hv3⟩ : ∃ t : ByteArray, t = v2 ++ ⟨#[41]⟩ := ⟨_, rfl⟩
          have HV3 : Hid (v3 = bs (bodyOf C f within i)) := Lib.hid (by rw [hv3, hv2, hv1, bodyText _ _ _ hF.out]; unfold bodyOf; rw [hSp.out, ← HP.out])
          have y1 : (⟨#[40, 41]⟩ : ByteArray).size = 2 := rfl
          have y2 : (⟨#[40]⟩ : ByteArray).size = 1 := rfl
          have y3 : (⟨#[41]⟩ : ByteArray).size = 1 := rfl
          have y4 : (bs (Lib.repeatL [32] ((nd C i).args.length - 1))).size = (nd C i).args.length - 1 := by rw [bs_size, Lib.repeatL_length]; simp
          have y5 : (bs (glue [32] (P.map (·.1)))).size = sumL P + ((nd C i).args.length - 1) := by
            rw [bs_size, glue_length]
            have := HPL.out
            simp [sumL, this, Function.comp_def]
          have z1 : u1.size = ((nd C i).label : ByteArray).size + 2 := by rw [hu1, ByteArray.size_append, y1]
          have z2 : Hid (u2.size = ((nd C i).label : ByteArray).size + 2 + ((nd C i).args.length - 1)) := Lib.hid (by rw [hu2, ByteArray.size_append, z1, y4])
          have z3 : v1.size = ((nd C i).label : ByteArray).size + 1 := by rw [hv1, ByteArray.size_append, y2]
          have hle := LE.out
          have z4 : v2.size ≤ 10000 := by rw [hv2, ByteArray.size_append, z3, y5]; omega
          have s1 : ∀ W, (Op.stringOp .add (nd C i).label ⟨#[40, 41]⟩).run Tryz.prog W = .ok (.string u1) W := fun W => by rw [hu1]; exact run_string_add_sum W _ _ (by rw [y1]; omega)
          have s2 : ∀ W, (Op.stringOp .add u1 (bs (Lib.repeatL [32] ((nd C i).args.length - 1)))).run Tryz.prog W = .ok (.string u2) W := fun W => by rw [hu2]; exact run_string_add_sum W _ _ (by rw [z1, y4]; omega)
          have s3 : ∀ W, (Op.stringOp .add (nd C i).label ⟨#[40]⟩).run Tryz.prog W = .ok (.string v1) W := fun W => by rw [hv1]; exact run_string_add_sum W _ _ (by rw [y2]; omega)
          have s4 : ∀ W, (Op.stringOp .add v1 (bs (glue [32] (P.map (·.1))))).run Tryz.prog W = .ok (.string v2) W := fun W => by rw [hv2]; exact run_string_add_sum W _ _ (by rw [z3, y5]; omega)
          have s5 : ∀ W, (Op.stringOp .add v2 ⟨#[41]⟩).run Tryz.prog W = .ok (.string v3) W := fun W => by rw [hv3]; exact run_string_add_sum W _ _ (by rw [y3]; omega)
          have HFS : Hid (((nd C i).label : ByteArray).size = (headOf (nd C i)).length) := Lib.hid (by rw [hF.out, bs_size])
          have Z0 := Lib.hid z0
          have Y5 := Lib.hid y5
          clear hu1 hu2 hv1 hv2 hv3 y1 y2 y3 y4 y5 z0 z1 z3 z4 hle
          go_wp2
          go_quiet (fail)
          go_wp2_with fail
          rw [show (((nd C i).args.length : Int) - 1) = (((nd C i).args.length - 1 : Nat) : Int) by omega]
          refine (repeat_any [32] ((nd C i).args.length - 1) _ rfl (by omega)).mono ?_
          rintro e w3 ⟨rfl, hx3⟩
          have HX3 := Lib.hid hx3
          clear hx3
          go_wp2_with fail
          refine (add_any A N c bm b (sz + sumL P) u2 w3 ((ST.out.blk.ext (Ext.of_drewN _ _)).ext HX3.out) LE.out (by rw [z2.out]; have := Z0.out; omega)).mono ?_
          rintro e w4 ⟨hc4, ⟨hle4, rfl, hb4⟩ | ⟨hgt, rfl⟩⟩
          · have HC4 : Hid (ChgS (fun j => j = b) wr w4) := Lib.hid ((ChgS.of_ext ((Ext.of_drewN wr _).trans' HX3.out)).trans (T := fun j => j = b) hc4 fun _ _ h => h)
            have HLE4 := Lib.hid hle4
            have HB4 := Lib.hid hb4
            clear hc4 hle4 hb4
            go_wp2_with fail
            refine (join_any g5 k5 (nd C i).args.length (P.map (·.1)) [32] w4 (by simpa using HPL.out) (fun j hj => HC4.out.cell (HCL.out j hj) ?_) ?_ hk5 (by omega) (by have := Y5.out; rw [bs_size] at this; have := LE.out; omega)).mono ?_
            · show ¬ g5 = b
              have := HG5.out.1; have := HX1.out.size; have := HB.out; omega
            · have := HG5.out.2; have := HC4.out.size; omega
            rintro e w5 ⟨rfl, hx5⟩
            have HX5 := Lib.hid hx5
            clear hx5
            go_wp2
            go_ret
            rw [HV3.out]
            have hC : ChgS (fun j => j = b ∨ j = bm) w w5 := ((ChgS.of_ext HX1.out).trans (T := fun i => i = b ∨ i = bm) (CHG.out.trans (HC4.out.ext HX5.out) fun _ _ h => .inl h) fun _ _ h => h)
            have hlen : sz + (bodyOf C f within i).length = sz + sumL P + u2.size := by
              have := HBL.out; have := HPL.out; have := z2.out; have := HFS.out
              omega
            refine ⟨hC, .inl ⟨by rw [hlen]; exact HLE4.out, rfl, by rw [hlen]; exact HB4.out.ext HX5.out, m', ?_, ?_⟩⟩
            · exact (HC4.out.map ST.out.map (fun h => HW.out.hb.2.2 h.symm)).ext HX5.out
            · intro x
              rw [LK.out x]
              unfold namedOf
              rw [← HP.out]
          · have hlen : sz + (bodyOf C f within i).length = sz + sumL P + u2.size := by
              have := HBL.out; have := HPL.out; have := z2.out; have := HFS.out
              omega
            refine ⟨rfl, ?_, .inr ⟨by rw [hlen]; exact hgt, rfl⟩⟩
            exact (ChgS.of_ext HX1.out).trans (T := fun i => i = b ∨ i = bm) (CHG.out.trans ((ChgS.of_ext ((Ext.of_drewN wr _).trans' HX3.out)).trans (T := fun j => j = b) hc4 fun _ _ h => h) fun _ _ h => .inl h) fun _ _ h => h
end Go.Proofs.YtnleljpebnnhfaaGreatDoor

set_option linter.unusedSimpArgs false
set_option linter.unusedVariables false
namespace Go.Proofs.YtnleljpebnnhfaaGreatDoor
open Go.RowKit
theorem lab_length (n : Nd) : (lab n).length = n.label.size := by unfold lab; rw [Array.length_toList]; rfl
theorem names_size {s : ByteArray} (h : namesB s = true) : s.size = 4 := by
  simp only [namesB, Bool.or_eq_true, beq_iff_eq, Go.Lib.toList_data] at h
  have : s.data.toList.length = 4 := by rcases h with (h | h) | h <;> rw [h] <;> rfl
  rw [Array.length_toList] at this
  exact this
theorem freeText (n : Int) : (⟨#[95]⟩ ++ bs (Lib.itoa n) : ByteArray) = bs (95 :: Lib.itoa n) := by
  apply ByteArray.ext
  apply Array.ext'
  simp [bs, ByteArray.data_append]
theorem refText (n : Int) : (⟨#[64]⟩ ++ bs (Lib.itoa n) : ByteArray) = bs (64 :: Lib.itoa n) := by
  apply ByteArray.ext
  apply Array.ext'
  simp [bs, ByteArray.data_append]
theorem markText (n : Int) : (bs (Lib.itoa n) ++ ⟨#[61]⟩ : ByteArray) = bs (Lib.itoa n ++ [61]) := by
  apply ByteArray.ext
  apply Array.ext'
  simp [bs, ByteArray.data_append]
/-- A leaf: what add leaves is what a node leaves. -/
theorem node_of_add {A : Option Addr} {N c bm b sz : Nat} {t : List UInt8} {m : List (Int × Bool)} {w w1 w2 : World} {e : Ending} (h : AddPost A N c bm b sz (bs t) w1 e w2) (k : Ext w w1) (hm : MapIs iv Fits Value.bool w bm m) (hb : b ≠ bm) : NodePost A N c bm b t [] m sz w e w2 := by
  obtain ⟨hc, h⟩ := h
  rw [bs_size] at h
  have hC : ChgS (fun i => i = b) w w2 := (ChgS.of_ext k).trans (T := fun i => i = b) hc fun _ _ h => h
  refine ⟨hC.mono fun i _ h => .inl h, ?_⟩
  rcases h with ⟨h1, rfl, h2⟩ | ⟨h1, rfl⟩
  · exact .inl ⟨h1, rfl, h2, m, hC.map hm (Ne.symm hb), fun x => by cases look m (x : Int) <;> simp⟩
  · exact .inr ⟨h1, rfl⟩
def nodeBox (C : List Nd) (i : Nat) (Aa : Option Addr) (ca : Nat) : Obj := .cells #[.int .i64 (nd C i).kind, .int .i64 (nd C i).num, .string (nd C i).label, .slice Aa (nd C i).args.length ca] 46
set_option maxRecDepth 100000 in
set_option maxHeartbeats 1000000 in
theorem node_leaf (C : List Nd) (hC : VG C) (hNR : NR C) (A : Option Addr) (N c bm b : Nat) (hN : C.length = N) (hN8 : N ≤ 1000000) (w0 : World) (hg : Gl w0) (hnds : NdsRd w0 A C)
    (i : Nat) (w : World) (m : List (Int × Bool)) (sz : Nat) (hi : i < N) (hk : (nd C i).kind ≠ 3) (hw : WrS A N c bm b w0 w m sz) (hz : sz ≤ 4000) (f : Nat) (within : List Nat) :
    Calls Tryz.prog 84 #[.pointer (some ⟨b, 0, none⟩), .int .i64 i] w (NodePost A N c bm b (txt C (f + 1) within i).1 (txt C (f + 1) within i).2 m sz w) := by
  have hv := hC _ (nd_mem (i := i) (by omega))
  have hr := hNR _ (nd_mem (i := i) (by omega))
  have hkk := valid_kind hv
  obtain ⟨v0, v1, v2, v3, v4⟩ := valid_label hv
  obtain ⟨b', o', hA, Aa, ca, q0, q1, q2, q3, q4, q5⟩ := hnds.get (i := i) (by omega)
  have p0 := hw.ext.cell q0
  have p1 := hw.ext.cell q1
  have p2 := hw.ext.cell q2
  have p3 := hw.ext.cell q3
  obtain ⟨c0, c2, c3, c4, c5⟩ := hw.blk.cells
  have hx1 : Ext w (w.alloc (nodeBox C i Aa ca)) := (Ext.rfl' _).alloc _
  have g1 := (hg.ext hw.ext).ext hx1
  have b1 := hw.blk.ext hx1
  have hil := Lib.itoa_length_le (nd C i).num hr.1 hr.2
  have HX1 := Lib.hid hx1
  have G1 := Lib.hid g1
  have B1 := Lib.hid b1
  have HW := Lib.hid hw
  have h0' := hr.1
  have h1' := hr.2
  clear hx1 g1 b1 hw hnds hg hC hNR q0 q1 q2 q3 q4 q5 hv hr v3 c2 c3 c4 c5
  subst hA
  by_cases k0 : (nd C i).kind = 0
  · have e1 : txt C (f + 1) within i = (95 :: Lib.itoa (nd C i).num, []) := by rw [txt, if_pos k0]
    rw [e1]
    have d0 : ((nd C i).kind == 0) = true := by simp [k0]
    obtain ⟨u, hu⟩ : ∃ u : ByteArray, u = ⟨#[95]⟩ ++ bs (Lib.itoa (nd C i).num) := ⟨_, rfl⟩
    have s1 : ∀ W, (Op.stringOp .add ⟨#[95]⟩ (bs (Lib.itoa (nd C i).num))).run Tryz.prog W = .ok (.string u) W := fun W => by rw [hu]; exact run_string_add_sum W _ _ (by rw [bs_size]; have : (⟨#[95]⟩ : ByteArray).size = 1 := rfl; omega)
    have HU : Hid (u = bs (95 :: Lib.itoa (nd C i).num)) := Lib.hid (by rw [hu, freeText])
    clear e1 hu k0 v0 v1 v2 v4 hk
    go_enter Tryz.func84, Tryz.ntmps84
    go_wp2_with fail
    refine (itoa_any (nd C i).num h0' h1' _ G1.out).mono ?_
    rintro e w2 ⟨rfl, hx⟩
    have HX2 := Lib.hid hx
    clear hx
    go_wp2_with fail
    rw [HU.out]
    refine (add_any _ N c bm b sz _ w2 (B1.out.ext HX2.out) hz (by rw [bs_size]; simp; omega)).mono ?_
    intro e w3 hp
    rcases node_of_add hp (HX1.out.trans' HX2.out) HW.out.map HW.out.hb.2.2 with ⟨hc, ⟨hle, rfl, r⟩ | ⟨hgt, rfl⟩⟩
    · have HP := Lib.hid hc
      have HL := Lib.hid hle
      have HR := Lib.hid r
      clear hc hle r hp
      go_wp2
      go_ret
      exact ⟨HP.out, .inl ⟨HL.out, rfl, HR.out⟩⟩
    · exact ⟨rfl, hc, .inr ⟨hgt, rfl⟩⟩
  have d0 : ((nd C i).kind == 0) = false := by simp [k0]
  by_cases k1 : (nd C i).kind = 1
  · have e1 : txt C (f + 1) within i = (Lib.itoa (nd C i).num, []) := by rw [txt, if_neg k0, if_pos k1]
    rw [e1]
    have d1 : ((nd C i).kind == 1) = true := by simp [k1]
    clear e1 k0 k1 v0 v1 v2 v4 hk
    go_enter Tryz.func84, Tryz.ntmps84
    go_wp2_with fail
    refine (itoa_any (nd C i).num h0' h1' _ G1.out).mono ?_
    rintro e w2 ⟨rfl, hx⟩
    have HX2 := Lib.hid hx
    clear hx
    go_wp2_with fail
    refine (add_any _ N c bm b sz _ w2 (B1.out.ext HX2.out) hz (by rw [bs_size]; omega)).mono ?_
    intro e w3 hp
    rcases node_of_add hp (HX1.out.trans' HX2.out) HW.out.map HW.out.hb.2.2 with ⟨hc, ⟨hle, rfl, r⟩ | ⟨hgt, rfl⟩⟩
    · have HP := Lib.hid hc
      have HL := Lib.hid hle
      have HR := Lib.hid r
      clear hc hle r hp
      go_wp2
      go_ret
      exact ⟨HP.out, .inl ⟨HL.out, rfl, HR.out⟩⟩
    · exact ⟨rfl, hc, .inr ⟨hgt, rfl⟩⟩
  have d1 : ((nd C i).kind == 1) = false := by simp [k1]
  by_cases k2 : (nd C i).kind = 2
  · have e1 : txt C (f + 1) within i = (lab (nd C i), []) := by rw [txt, if_neg k0, if_neg k1, if_pos k2]
    rw [e1]
    have d2 : ((nd C i).kind == 2) = true := by simp [k2]
    have HZ := Lib.hid (atom_size (v2 k2).2)
    have HU : Hid ((nd C i).label = bs (lab (nd C i))) := Lib.hid (bs_lab _).symm
    clear e1 k0 k1 k2 v0 v1 v2 v4 hk
    go_enter Tryz.func84, Tryz.ntmps84
    go_wp2_with fail
    refine (add_any _ N c bm b sz _ _ B1.out hz (by have := HZ.out; omega)).mono ?_
    intro e w3 hp
    rw [HU.out] at hp
    rcases node_of_add hp (HX1.out) HW.out.map HW.out.hb.2.2 with ⟨hc, ⟨hle, rfl, r⟩ | ⟨hgt, rfl⟩⟩
    · have HP := Lib.hid hc
      have HL := Lib.hid hle
      have HR := Lib.hid r
      clear hc hle r hp
      go_wp2
      go_ret
      exact ⟨HP.out, .inl ⟨HL.out, rfl, HR.out⟩⟩
    · exact ⟨rfl, hc, .inr ⟨hgt, rfl⟩⟩
  have d2 : ((nd C i).kind == 2) = false := by simp [k2]
  have k4 : (nd C i).kind = 4 := by omega
  have e1 : txt C (f + 1) within i = (60 :: (lab (nd C i) ++ 32 :: (Lib.itoa (nd C i).num ++ [62])), []) := by rw [txt, if_neg k0, if_neg k1, if_neg k2, if_pos k4]
  rw [e1]
  have d4 : ((nd C i).kind == 4) = true := by simp [k4]
  have HZ := Lib.hid (names_size (v4 k4).2)
  clear e1 k0 k1 k2 k4 v0 v1 v2 v4 hk
  · go_enter Tryz.func84, Tryz.ntmps84
    go_wp2_with fail
    refine (name_any _ N c bm b sz (nd C i) _ _ G1.out B1.out hz (by have := HZ.out; omega) h0' h1' ⟨_, _, _, rfl⟩).mono ?_
    intro e w3 hp
    rcases node_of_add hp (HX1.out) HW.out.map HW.out.hb.2.2 with ⟨hc, ⟨hle, rfl, r⟩ | ⟨hgt, rfl⟩⟩
    · have HP := Lib.hid hc
      have HL := Lib.hid hle
      have HR := Lib.hid r
      clear hc hle r hp
      go_wp2
      go_ret
      exact ⟨HP.out, .inl ⟨HL.out, rfl, HR.out⟩⟩
    · exact ⟨rfl, hc, .inr ⟨hgt, rfl⟩⟩
theorem txt_ref (C : List Nd) (f : Nat) (within : List Nat) (i : Nat) (hk : (nd C i).kind = 3) (hm : i ∈ within) : txt C (f + 1) within i = (64 :: Lib.itoa (i : Int), [i]) := by
  rw [txt, if_neg (by omega), if_neg (by omega), if_neg (by omega), if_neg (by omega), if_pos hm]
theorem txt_open (C : List Nd) (f : Nat) (within : List Nat) (i : Nat) (hk : (nd C i).kind = 3) (hm : i ∉ within) : txt C (f + 1) within i = (if i ∈ namedOf C f (within ++ [i]) i then Lib.itoa (i : Int) ++ 61 :: bodyOf C f (within ++ [i]) i else bodyOf C f (within ++ [i]) i, (namedOf C f (within ++ [i]) i).filter fun k => decide (k ≠ i)) := txt_tuple C f within i hk hm
set_option maxRecDepth 100000 in
set_option maxHeartbeats 2000000 in
theorem node_tuple (C : List Nd) (hC : VG C) (A : Option Addr) (N c bm b : Nat) (hN : C.length = N) (hN8 : N ≤ 1000000) (w0 : World) (hg : Gl w0) (hnds : NdsRd w0 A C)
    (i : Nat) (w : World) (m : List (Int × Bool)) (sz : Nat) (hi : i < N) (hk : (nd C i).kind = 3) (hw : WrS A N c bm b w0 w m sz) (hz : sz ≤ 4000) (f : Nat) (within : List Nat) (ho : Opn m within)
    (IH : i ∉ within → NodeC C A N c bm b w0 f (within ++ [i])) :
    Calls Tryz.prog 84 #[.pointer (some ⟨b, 0, none⟩), .int .i64 i] w (NodePost A N c bm b (txt C (f + 1) within i).1 (txt C (f + 1) within i).2 m sz w) := by
  obtain ⟨b', o', hA, Aa, ca, q0, q1, q2, q3, q4, q5⟩ := hnds.get (i := i) (by omega)
  have p0 := hw.ext.cell q0
  have p1 := hw.ext.cell q1
  have p2 := hw.ext.cell q2
  have p3 := hw.ext.cell q3
  obtain ⟨c0, c2, c3, c4, c5⟩ := hw.blk.cells
  have hx1 : Ext w (w.alloc (nodeBox C i Aa ca)) := (Ext.rfl' _).alloc _
  have c3' : (w.alloc (nodeBox C i Aa ca)).cell? ⟨b, 3, none⟩ = some (.map (some bm)) := hx1.cell c3
  have g1 := (hg.ext hw.ext).ext hx1
  have b1 := hw.blk.ext hx1
  have m1 := hw.map.ext hx1
  have hfits : Fits (i : Int) := fits_of (by omega) (by omega)
  have hil := Lib.itoa_length_le (i : Int) (by omega) (by omega)
  have d0 : ((nd C i).kind == 0) = false := by simp [hk]
  have d1 : ((nd C i).kind == 1) = false := by simp [hk]
  have d2 : ((nd C i).kind == 2) = false := by simp [hk]
  have d4 : ((nd C i).kind == 4) = false := by simp [hk]
  have hbm := hw.map.lt
  have hbl := hw.blk.lt
  have HX1 := Lib.hid hx1
  have G1 := Lib.hid g1
  have B1 := Lib.hid b1
  have M1 := Lib.hid m1
  have HW := Lib.hid hw
  have HK := Lib.hid hk
  have HO := Lib.hid ho
  have HC := Lib.hid hC
  have HG := Lib.hid hg
  have HF := Lib.hid hfits
  have Q5 := Lib.hid q5
  have HN := Lib.hid hN
  have HIH := Lib.hid IH
  have hlk := m1.lookup kl3 und100 zero4 hfits true
  clear hx1 g1 b1 m1 hw hnds hg hC q0 q1 q2 q3 q5 c2 c3 c4 c5 hfits ho hk hN IH
  cases hl : look m (i : Int) with
  | some v =>
    have hm : i ∈ within := (HO.out i).1 (by rw [hl]; rfl)
    rw [hl] at hlk
    have hlk' : (Instr.lookup 100 (.map (some bm)) (.int .i64 i) true).run Tryz.prog (w.alloc (nodeBox C i Aa ca)) = .ok (.tuple #[.bool v, .bool true]) (w.alloc (nodeBox C i Aa ca)) := hlk
    rw [txt_ref C f within i HK.out hm]
    obtain ⟨u, hu⟩ : ∃ u : ByteArray, u = ⟨#[64]⟩ ++ bs (Lib.itoa (i : Int)) := ⟨_, rfl⟩
    have s1 : ∀ W, (Op.stringOp .add ⟨#[64]⟩ (bs (Lib.itoa (i : Int)))).run Tryz.prog W = .ok (.string u) W := fun W => by rw [hu]; exact run_string_add_sum W _ _ (by rw [bs_size]; have : (⟨#[64]⟩ : ByteArray).size = 1 := rfl; omega)
    have HU : Hid (u = bs (64 :: Lib.itoa (i : Int))) := Lib.hid (by rw [hu, refText])
    have HL := Lib.hid hl
    clear hlk hu hm hl
    subst hA
    unfold nodeBox at hlk' c3'
    go_enter Tryz.func84, Tryz.ntmps84
    go_wp2_with (at_mapUpdate; refine wpList_upd rfl _ _ _ 100 rfl kl3 und100 M1.out rfl (i : Int) HF.out rfl true rfl ?_)
    intro w2 hM hch
    have HM := Lib.hid hM
    have HCH := Lib.hid hch
    clear hM hch hlk' c3'
    go_wp2_with fail
    have C2 : ChgS (fun j => j = bm) w w2 := (ChgS.of_ext HX1.out).chg HCH.out (.inl rfl)
    have hE2 : Ext w0 w2 := C2.extOf HW.out.ext (by rintro j rfl; exact HW.out.hb.2.1)
    have hB2 : WrB _ N c bm w2 b sz := HW.out.blk.chg C2 HW.out.hb.2.2
    have HC2 := Lib.hid C2
    have HB2 := Lib.hid hB2
    have HE2 := Lib.hid hE2
    clear C2 hE2 hB2
    refine (itoa_any (i : Int) (by omega) (by omega) w2 (HG.out.ext HE2.out)).mono ?_
    rintro e w3 ⟨rfl, hx⟩
    have HX3 := Lib.hid hx
    clear hx
    go_wp2_with fail
    rw [HU.out]
    refine (add_any _ N c bm b sz _ w3 (HB2.out.ext HX3.out) hz (by rw [bs_size]; simp; omega)).mono ?_
    rintro e w4 ⟨hc4, h4⟩
    rw [bs_size] at h4
    have hC : ChgS (fun j => j = b ∨ j = bm) w w4 := (HC2.out.ext HX3.out).mono (fun _ _ h => .inr h) |>.trans (T := fun j => j = b) hc4 fun _ _ h => .inl h
    have HCC := Lib.hid hC
    have HC4 := Lib.hid hc4
    clear hC hc4
    rcases h4 with ⟨hle, rfl, hb4⟩ | ⟨hgt, rfl⟩
    · have HL4 := Lib.hid hle
      have HB4 := Lib.hid hb4
      clear hle hb4
      go_wp2
      go_ret
      refine ⟨HCC.out, .inl ⟨HL4.out, rfl, HB4.out, _, HC4.out.map (HM.out.ext HX3.out) (Ne.symm HW.out.hb.2.2), fun x => ?_⟩⟩
      rw [look_ins]
      by_cases hx : (x : Int) = i
      · rw [if_pos hx]
        have : x = i := by omega
        subst this
        rw [HL.out]
        simp
      · rw [if_neg hx]
        have : ¬ x = i := by omega
        cases look m (x : Int) <;> simp [this]
    · exact ⟨rfl, HCC.out, .inr ⟨hgt, rfl⟩⟩
  | none =>
    have hm : i ∉ within := fun h => by have := (HO.out i).2 h; rw [hl] at this; cases this
    rw [hl] at hlk
    have hlk' : (Instr.lookup 100 (.map (some bm)) (.int .i64 i) true).run Tryz.prog (w.alloc (nodeBox C i Aa ca)) = .ok (.tuple #[.bool false, .bool false]) (w.alloc (nodeBox C i Aa ca)) := hlk
    rw [txt_open C f within i HK.out hm]
    generalize hT : (if i ∈ namedOf C f (within ++ [i]) i then Lib.itoa (i : Int) ++ 61 :: bodyOf C f (within ++ [i]) i else bodyOf C f (within ++ [i]) i) = T
    have HT := Lib.hid hT
    clear hT
    have HMM := Lib.hid hm
    have HL := Lib.hid hl
    clear hlk hm hl
    have hAA := hA
    subst hA
    have hbx : (w.alloc (nodeBox C i Aa ca)).heap[w.heap.size]? = some (nodeBox C i Aa ca) := new_heap _ _ _ rfl
    have HBX := Lib.hid hbx
    clear hbx
    unfold nodeBox at hlk' c3'
    go_enter Tryz.func84, Tryz.ntmps84
    go_wp2_with (at_mapUpdate; refine wpList_upd rfl _ _ _ 100 rfl kl3 und100 M1.out rfl (i : Int) HF.out rfl false rfl ?_)
    intro w2 hM hch
    have C2 : ChgS (fun j => j = bm) w w2 := (ChgS.of_ext HX1.out).chg hch (.inl rfl)
    have hE2 : Ext w0 w2 := C2.extOf HW.out.ext (by rintro j rfl; exact HW.out.hb.2.1)
    have hB2 : WrB _ N c bm w2 b sz := HW.out.blk.chg C2 HW.out.hb.2.2
    have hx2 : w2.heap[w.heap.size]? = some (nodeBox C i Aa ca) := ((ChgS.refl (fun j => j = bm) _).chg hch (.inl rfl)).heap HBX.out (by omega)
    unfold nodeBox at hx2
    have x0 : w2.cell? ⟨w.heap.size, 0, none⟩ = some (.int .i64 (nd C i).kind) := by simp [World.cell?, hx2]
    have x1 : w2.cell? ⟨w.heap.size, 1, none⟩ = some (.int .i64 (nd C i).num) := by simp [World.cell?, hx2]
    have x2 : w2.cell? ⟨w.heap.size, 2, none⟩ = some (.string (nd C i).label) := by simp [World.cell?, hx2]
    have x3 : w2.cell? ⟨w.heap.size, 3, none⟩ = some (.slice Aa (nd C i).args.length ca) := by simp [World.cell?, hx2]
    have HM := Lib.hid hM
    have HC2 := Lib.hid C2
    have HB2 := Lib.hid hB2
    have HE2 := Lib.hid hE2
    clear hM hch hlk' c3' C2 hE2 hB2 hx2
    go_wp2_with fail
    have hop : Opn (ins m (i : Int) false) (within ++ [i]) := by
      intro x
      rw [look_ins]
      by_cases hx : (x : Int) = i
      · rw [if_pos hx]
        have : x = i := by omega
        subst this
        simp
      · rw [if_neg hx, HO.out x]
        have : ¬ x = i := by omega
        simp [this]
    refine (wtuple_any C HC.out _ N c bm b HN.out w0 HG.out f (within ++ [i]) (HIH.out HMM.out) i w2 (ins m (i : Int) false) sz hi HK.out ⟨HE2.out, HB2.out, HM.out, HW.out.hb⟩ hz hop Aa ca Q5.out q4).mono ?_
    clear hop
    rintro e w3 ⟨hc3, ⟨hle, rfl, hb3, m3, hm3, hlk3⟩ | ⟨hgt, rfl⟩⟩
    · have hbc := hb3.cells.2.2.1
      have C3 : ChgS (fun j => j = b ∨ j = bm) w w3 := (HC2.out.mono fun _ _ h => .inr h).trans (T := fun j => j = b ∨ j = bm) hc3 fun _ _ h => h
      have hmet : look m3 (i : Int) = some (decide (i ∈ namedOf C f (within ++ [i]) i)) := by
        rw [hlk3 i, look_ins, if_pos rfl]; simp
      have hlkm := hm3.lookup kl3 und100 zero4 HF.out false
      rw [hmet] at hlkm
      have hlkm' : (Instr.lookup 100 (.map (some bm)) (.int .i64 i) false).run Tryz.prog w3 = .ok (.bool (decide (i ∈ namedOf C f (within ++ [i]) i))) w3 := hlkm
      have hfin : ∀ x : Nat, look (del m3 (i : Int)) (x : Int) = (look m (x : Int)).map fun v => v || decide (x ∈ (namedOf C f (within ++ [i]) i).filter fun k => decide (k ≠ i)) := by
        intro x
        rw [look_del]
        by_cases hx : (x : Int) = i
        · have : x = i := by omega
          subst this
          rw [if_pos rfl, HL.out]; rfl
        · rw [if_neg hx, hlk3 x, look_ins, if_neg hx]
          have : ¬ x = i := by omega
          cases look m (x : Int) with
          | none => rfl
          | some v => simp [this]
      have HLE := Lib.hid hle
      have HB3 := Lib.hid hb3
      have HM3 := Lib.hid hm3
      have HC3 := Lib.hid C3
      have HFIN := Lib.hid hfin
      have HMET := Lib.hid hmet
      clear hlk3 hmet hlkm hfin C3 hc3 hle hb3 hm3 x0 x1 x2 x3
      by_cases hnm : i ∈ namedOf C f (within ++ [i]) i
      · have hnd : decide (i ∈ namedOf C f (within ++ [i]) i) = true := by simp [hnm]
        rw [hnd] at hlkm'
        have HTT : Hid (T = Lib.itoa (i : Int) ++ 61 :: bodyOf C f (within ++ [i]) i) := Lib.hid (by rw [← HT.out, if_pos hnm])
        obtain ⟨u, hu⟩ : ∃ u : ByteArray, u = bs (Lib.itoa (i : Int)) ++ ⟨#[61]⟩ := ⟨_, rfl⟩
        obtain ⟨v, hv⟩ : ∃ v : ByteArray, v = u ++ bs (bodyOf C f (within ++ [i]) i) := ⟨_, rfl⟩
        have y1 : (⟨#[61]⟩ : ByteArray).size = 1 := rfl
        have hbl4 := HLE.out
        have s1 : ∀ W, (Op.stringOp .add (bs (Lib.itoa (i : Int))) ⟨#[61]⟩).run Tryz.prog W = .ok (.string u) W := fun W => by rw [hu]; exact run_string_add_sum W _ _ (by rw [bs_size, y1]; omega)
        have s2 : ∀ W, (Op.stringOp .add u (bs (bodyOf C f (within ++ [i]) i))).run Tryz.prog W = .ok (.string v) W := fun W => by rw [hv]; exact run_string_add_sum W _ _ (by rw [hu, ByteArray.size_append, bs_size, bs_size, y1]; omega)
        have HU : Hid (u = bs (Lib.itoa (i : Int) ++ [61])) := Lib.hid (by rw [hu, markText])
        have HV : Hid (v = bs (Lib.itoa (i : Int) ++ 61 :: bodyOf C f (within ++ [i]) i)) := Lib.hid (by rw [hv, HU.out, bs_append]; simp)
        clear hu hv y1 hbl4 hnm hnd
        go_wp2_with (at_delete; refine wpList_del rfl _ _ 100 rfl kl3 und100 HM3.out rfl (i : Int) HF.out rfl ?_)
        intro w4 hM4 hch4
        have C34 : ChgS (fun j => j = bm) w3 w4 := (ChgS.refl (fun j => j = bm) w3).chg hch4 (.inl rfl)
        have C4 : ChgS (fun j => j = b ∨ j = bm) w w4 := HC3.out.trans (T := fun j => j = bm) C34 fun _ _ h => .inr h
        have hE4 : Ext w0 w4 := C4.extOf HW.out.ext (by rintro j (rfl | rfl); exact HW.out.hb.1; exact HW.out.hb.2.1)
        have hB4 : WrB _ N c bm w4 b _ := HB3.out.chg C34 HW.out.hb.2.2
        have HM4 := Lib.hid hM4
        have HC4 := Lib.hid C4
        have HB4 := Lib.hid hB4
        have HE4 := Lib.hid hE4
        clear hM4 hch4 C34 C4 hE4 hB4 hlkm' hbc
        go_wp2_with fail
        refine (itoa_any (i : Int) (by omega) (by omega) w4 (HG.out.ext HE4.out)).mono ?_
        rintro e w5 ⟨rfl, hx⟩
        have HX5 := Lib.hid hx
        clear hx
        go_wp2_with fail
        rw [HU.out]
        refine (add_any _ N c bm b _ _ w5 (HB4.out.ext HX5.out) HLE.out (by rw [bs_size]; simp; omega)).mono ?_
        rintro e w6 ⟨hc6, h6⟩
        rw [bs_size] at h6
        have hlen : (Lib.itoa (i : Int) ++ 61 :: bodyOf C f (within ++ [i]) i).length = (bodyOf C f (within ++ [i]) i).length + (Lib.itoa (i : Int) ++ [61]).length := by simp; omega
        have hC : ChgS (fun j => j = b ∨ j = bm) w w6 := (HC4.out.ext HX5.out).trans (T := fun j => j = b) hc6 fun _ _ h => .inl h
        have HCC := Lib.hid hC
        have HC6 := Lib.hid hc6
        have HLEN := Lib.hid hlen
        clear hC hc6 hlen
        rcases h6 with ⟨hle, rfl, hb6⟩ | ⟨hgt, rfl⟩
        · have HL6 := Lib.hid hle
          have HB6 := Lib.hid hb6
          clear hle hb6
          rw [← HU.out]
          go_wp2
          go_ret
          rw [HV.out, HTT.out]
          refine ⟨HCC.out, .inl ⟨by rw [HLEN.out]; have := HL6.out; omega, rfl, ?_, _, HC6.out.map (HM4.out.ext HX5.out) (Ne.symm HW.out.hb.2.2), HFIN.out⟩⟩
          rw [HLEN.out, ← Nat.add_assoc]
          exact HB6.out
        · exact ⟨rfl, HCC.out, .inr ⟨by rw [HTT.out, HLEN.out]; omega, rfl⟩⟩
      · have hnd : decide (i ∈ namedOf C f (within ++ [i]) i) = false := by simp [hnm]
        rw [hnd] at hlkm'
        have HTT : Hid (T = bodyOf C f (within ++ [i]) i) := Lib.hid (by rw [← HT.out, if_neg hnm])
        clear hnm hnd
        go_wp2_with (at_delete; refine wpList_del rfl _ _ 100 rfl kl3 und100 HM3.out rfl (i : Int) HF.out rfl ?_)
        intro w4 hM4 hch4
        have C34 : ChgS (fun j => j = bm) w3 w4 := (ChgS.refl (fun j => j = bm) w3).chg hch4 (.inl rfl)
        have C4 : ChgS (fun j => j = b ∨ j = bm) w w4 := HC3.out.trans (T := fun j => j = bm) C34 fun _ _ h => .inr h
        have hB4 : WrB _ N c bm w4 b _ := HB3.out.chg C34 HW.out.hb.2.2
        have HM4 := Lib.hid hM4
        have HC4 := Lib.hid C4
        have HB4 := Lib.hid hB4
        clear hM4 hch4 C34 C4 hB4 hlkm' hbc
        go_wp2
        go_ret
        rw [HTT.out]
        exact ⟨HC4.out, .inl ⟨HLE.out, rfl, HB4.out, _, HM4.out, HFIN.out⟩⟩
    · refine ⟨rfl, (HC2.out.mono fun _ _ h => .inr h).trans (T := fun j => j = b ∨ j = bm) hc3 fun _ _ h => h, .inr ⟨?_, rfl⟩⟩
      rw [← HT.out]
      split
      · simp; omega
      · exact hgt
/-- The writing of a node. -/
theorem wnode_any (C : List Nd) (hC : VG C) (hNR : NR C) (A : Option Addr) (N c bm b : Nat) (hN : C.length = N) (hN8 : N ≤ 1000000) (w0 : World) (hg : Gl w0) (hnds : NdsRd w0 A C) :
    ∀ (f : Nat) (within : List Nat), f + within.length = N + 1 → within.Nodup → (∀ x ∈ within, x < N) → NodeC C A N c bm b w0 f within := by
  intro f
  induction f with
  | zero =>
    intro within hf hn hw i w m sz hi
    have := hn.length_le_of_subset (l₂ := List.range N) fun x hx => List.mem_range.2 (hw x hx)
    simp at this
    omega
  | succ f ih =>
    intro within hf hn hw i w m sz hi hst hz ho
    by_cases hk : (nd C i).kind = 3
    · refine node_tuple C hC A N c bm b hN hN8 w0 hg hnds i w m sz hi hk hst hz f within ho fun hm => ih (within ++ [i]) (by simp; omega) ?_ ?_
      · rw [List.nodup_append]
        exact ⟨hn, by simp, fun a ha b hb e => hm (by rw [← (by simpa using hb : b = i), ← e]; exact ha)⟩
      · intro x hx
        rcases List.mem_append.1 hx with hx | hx
        · exact hw x hx
        · have : x = i := by simpa using hx
          omega
    · exact node_leaf C hC hNR A N c bm b hN hN8 w0 hg hnds i w m sz hi hk hst hz f within
end Go.Proofs.YtnleljpebnnhfaaGreatDoor

set_option linter.unusedSimpArgs false
set_option linter.unusedVariables false
namespace Go.Proofs.YtnleljpebnnhfaaGreatDoor
open Go.RowKit
theorem eqLong (W : World) : (binOp .eql 20 (.iface 98 (.agg #[])) (.iface 98 (.agg #[]))).run Tryz.prog W = .ok (.bool true) W := by kernel_rfl
theorem eqLongNil (W : World) : (binOp .eql 20 .nilIface (.iface 98 (.agg #[]))).run Tryz.prog W = .ok (.bool false) W := by kernel_rfl
theorem neNil (W : World) : (binOp .neq 20 .nilIface .nilIface).run Tryz.prog W = .ok (.bool false) W := by kernel_rfl
theorem catch_long (pb qb : Nat) (x y : Value) (older : List PanicEntry) (w : World) (hp : w.cell? ⟨pb, 0, none⟩ = some x) (hpz : w.frozen? ⟨pb, 0, none⟩ = false) (hq : w.cell? ⟨qb, 0, none⟩ = some y) (hqz : w.frozen? ⟨qb, 0, none⟩ = false) (hpq : pb ≠ qb) :
    CallsD Tryz.prog 83 #[.pointer (some ⟨pb, 0, none⟩), .pointer (some ⟨qb, 0, none⟩)] (.panicking ({ v := .iface 98 (.agg #[]), recovered := false } :: older)) w fun e u' w' =>
      e = .returned (.tuple #[]) ∧ u' = .panicking ({ v := .iface 98 (.agg #[]), recovered := true } :: older) ∧ w' = (w.setCell ⟨pb, 0, none⟩ (.string ⟨#[]⟩)).setCell ⟨qb, 0, none⟩ (.bool false) := by
  have e1 := eqLong
  have hq2 : ∀ v, (w.setCell ⟨pb, 0, none⟩ v).cell? ⟨qb, 0, none⟩ = some y := fun v => ((ChgS.refl (fun i => i = pb) w).set (.inl rfl) 0 v).cell hq (fun h => hpq h.symm)
  have hq3 : ∀ v, (w.setCell ⟨pb, 0, none⟩ v).frozen? ⟨qb, 0, none⟩ = false := fun v => by rw [World.frozen?_setCell]; exact hqz
  refine callsD_of_wpS Tryz.func83 rfl fun c₀ cs hu => ?_
  apply wpS_seq
  apply wpS_region
  simp [wpOpsS, go_sem, recoverD, hu, Tryz.ntmps83, Exit.thenS]
  apply wpS_seq
  apply wpS_region
  simp [wpOpsS, go_sem, recoverD, hu, Tryz.ntmps83, Exit.thenS, e1]
  refine wpS_cond (t := true) (by simp [Act.eval, Array.replicate]) ?_
  simp only [if_true]
  apply wpS_region
  simp [wpOpsS, go_sem, hp, hpz, hq2, hq3, bodyPostS, results, Tryz.results83]
theorem catch_none (pb qb : Nat) (w : World) :
    CallsD Tryz.prog 83 #[.pointer (some ⟨pb, 0, none⟩), .pointer (some ⟨qb, 0, none⟩)] .returning w fun e u' w' => e = .returned (.tuple #[]) ∧ u' = .returning ∧ w' = w := by
  have e1 := eqLongNil
  have e2 := neNil
  refine callsD_of_wpS Tryz.func83 rfl fun c₀ cs hu => ?_
  apply wpS_seq
  apply wpS_region
  simp [wpOpsS, go_sem, recoverD, hu, Tryz.ntmps83, Exit.thenS]
  apply wpS_seq
  apply wpS_region
  simp [wpOpsS, go_sem, recoverD, hu, Tryz.ntmps83, Exit.thenS, e1]
  refine wpS_cond (t := false) (by simp [Act.eval, Array.replicate]) ?_
  simp only [Bool.false_eq_true, if_false]
  apply wpS_seq
  apply wpS_region
  simp [wpOpsS, go_sem, Exit.thenS, e2]
  refine wpS_cond (t := false) (by simp [Act.eval, Array.replicate]) ?_
  simp only [Bool.false_eq_true, if_false]
  refine wpS_of_wp (wp_skip ?_)
  cases c₀
  simp_all [bodyPostS, results, Tryz.results83]
/-- What Text hands back. -/
def WTextPost (C : List Nd) (w : World) (e : Ending) (w' : World) : Prop :=
  Ext w w' ∧ ((textOf C).length ≤ 4000 → e = .returned (.tuple #[.string (bs (textOf C)), .bool true])) ∧ (4000 < (textOf C).length → e = .returned (.tuple #[.string ⟨#[]⟩, .bool false]))
theorem mkMap100 (W : World) : (Instr.makeMap 100 none).run Tryz.prog W = .ok (.map (some W.heap.size)) (W.alloc (.map #[] 0)) := by kernel_rfl
/-- The world in which the writer begins. -/
def wtW (w : World) (A : Option Addr) (N c : Nat) : World :=
  ((((w.alloc (.cells #[.slice A N c, .int .i64 0] 24)).alloc (.cells #[.string ⟨#[]⟩] 9)).alloc (.cells #[.bool false] 4)).alloc (.map #[] 0)).alloc
    (.cells #[.slice A N c, .int .i64 0, .bool false, .map (some (w.heap.size + 1 + 1 + 1)), .int .i64 0] 102)
theorem wtW_ext (w : World) (A : Option Addr) (N c : Nat) : Ext w (wtW w A N c) := (((((Ext.rfl' w).alloc _).alloc _).alloc _).alloc _).alloc _
theorem wtW_st (w : World) (A : Option Addr) (N c : Nat) : WrS A N c (w.heap.size + 1 + 1 + 1) (w.heap.size + 1 + 1 + 1 + 1) w (wtW w A N c) [] 0 := by
  refine ⟨wtW_ext _ _ _ _, ?_, ?_, by omega, by omega, by omega⟩
  · unfold wtW WrB
    exact new_heap _ _ _ (by simp)
  · unfold wtW
    have := MapIs.made (enc := iv) (ok := Fits) (encV := Value.bool) (((w.alloc (.cells #[.slice A N c, .int .i64 0] 24)).alloc (.cells #[.string ⟨#[]⟩] 9)).alloc (.cells #[.bool false] 4))
    have e : (((w.alloc (.cells #[.slice A N c, .int .i64 0] 24)).alloc (.cells #[.string ⟨#[]⟩] 9)).alloc (.cells #[.bool false] 4)).heap.size = w.heap.size + 1 + 1 + 1 := by simp
    rw [e] at this
    exact this.ext ((Ext.rfl' _).alloc _)
theorem wtW_cells (w : World) (A : Option Addr) (N c : Nat) : (wtW w A N c).heap[w.heap.size + 1]? = some (.cells #[.string ⟨#[]⟩] 9 (0, 0)) ∧ (wtW w A N c).heap[w.heap.size + 1 + 1]? = some (.cells #[.bool false] 4 (0, 0)) := by
  constructor
  · unfold wtW
    exact ((((Ext.rfl' _).alloc _).alloc _).alloc _).heap (new_heap _ _ _ (by simp))
  · unfold wtW
    exact (((Ext.rfl' _).alloc _).alloc _).heap (new_heap _ _ _ (by simp))
theorem heap_one {w : World} {b : Nat} {x : Value} {t : TypeId} (v : Value) (h : w.heap[b]? = some (.cells #[x] t (0, 0))) : (w.setCell ⟨b, 0, none⟩ v).heap[b]? = some (.cells #[v] t (0, 0)) := by
  simp [World.setCell, Array.getElem?_modify, h]
theorem heap_other {w : World} {b d : Nat} {o : Obj} (k : Nat) (v : Value) (h : w.heap[b]? = some o) (hne : b ≠ d) : (w.setCell ⟨d, k, none⟩ v).heap[b]? = some o :=
  ((ChgS.refl (fun i => i = d) w).set (.inl rfl) k v).heap h hne
set_option maxRecDepth 100000 in
set_option maxHeartbeats 1000000 in
theorem wText_any (C : List Nd) (hC : VG C) (hNR : NR C) (A : Option Addr) (N c : Nat) (hN : C.length = N) (hpos : 0 < N) (hN8 : N ≤ 1000000) (w : World) (hg : Gl w) (hnds : NdsRd w A C) :
    Calls Tryz.prog 55 #[.agg #[.slice A N c, .int .i64 0], .bool false] w (WTextPost C w) := by
  have hmf : ∀ (fn : Fn) (first cap : Array Value) (w : World), (Instr.makeFunc fn first cap).run Tryz.prog w = .ok (.func fn first cap) w := fun _ _ _ _ => rfl
  have hmm := mkMap100
  have HG := Lib.hid hg
  have HND := Lib.hid hnds
  have HC := Lib.hid hC
  have HNR := Lib.hid hNR
  have HN := Lib.hid hN
  clear hg hnds hC hNR hN
  go_enter_defers Tryz.func55, Tryz.ntmps55
  go_wp2_with fail
  change Calls Tryz.prog 84 _ (wtW w A N c) _
  refine (wnode_any C HC.out HNR.out A N c (w.heap.size + 1 + 1 + 1) (w.heap.size + 1 + 1 + 1 + 1) HN.out hN8 w HG.out HND.out (N + 1) [] (by simp) (by simp) (by simp) 0 (wtW w A N c) [] 0 hpos (wtW_st w A N c) (by omega) (fun x => by simp [look_nil])).mono ?_
  rw [show (txt C (N + 1) [] 0).1 = textOf C by unfold textOf; rw [HN.out]]
  rintro e w5 ⟨hc, ⟨hle, rfl, hb, m5, hm5, hlk5⟩ | ⟨hgt, rfl⟩⟩
  · obtain ⟨h1, h2⟩ := wtW_cells w A N c
    have k1 := hc.heap h1 (by rintro (h | h) <;> omega)
    have k2 := hc.heap h2 (by rintro (h | h) <;> omega)
    have hE : Ext w w5 := hc.extOf (wtW_ext w A N c) (by rintro i (rfl | rfl) <;> omega)
    have c1 : w5.cell? ⟨w.heap.size + 1, 0, none⟩ = some (.string ⟨#[]⟩) := by simp [World.cell?, k1]
    have z1 : w5.frozen? ⟨w.heap.size + 1, 0, none⟩ = false := by simp [World.frozen?, k1]
    have k3 := heap_one (.string (bs (textOf C))) k1
    have k4 := heap_other (d := w.heap.size + 1) 0 (.string (bs (textOf C))) k2 (by omega)
    have c2 : (w5.setCell ⟨w.heap.size + 1, 0, none⟩ (.string (bs (textOf C)))).cell? ⟨w.heap.size + 1 + 1, 0, none⟩ = some (.bool false) := by simp [World.cell?, k4]
    have z2 : (w5.setCell ⟨w.heap.size + 1, 0, none⟩ (.string (bs (textOf C)))).frozen? ⟨w.heap.size + 1 + 1, 0, none⟩ = false := by simp [World.frozen?, k4]
    have k5 := heap_one (.bool true) k4
    have k6 := heap_other (d := w.heap.size + 1 + 1) 0 (.bool true) k3 (by omega)
    have HK5 := Lib.hid k5
    have HK6 := Lib.hid k6
    have HE := Lib.hid hE
    have HLE := Lib.hid hle
    clear k1 k2 k3 k4 k5 k6 hE hc hle hb hm5 hlk5 h1 h2
    go_wp2
    refine leaves_cons (f := 83) (args := #[.pointer (some ⟨w.heap.size + 1, 0, none⟩), .pointer (some ⟨w.heap.size + 1 + 1, 0, none⟩)]) (by simp) (by simp [go_sem]) ?_
    refine (catch_none (w.heap.size + 1) (w.heap.size + 1 + 1) _).mono ?_
    rintro e u' w'' ⟨rfl, rfl, rfl⟩
    have hE6 : Ext w ((w5.setCell ⟨w.heap.size + 1, 0, none⟩ (.string (bs (textOf C)))).setCell ⟨w.heap.size + 1 + 1, 0, none⟩ (.bool true)) := (HE.out.setNew (by show w.heap.size ≤ w.heap.size + 1; omega) _).setNew (by show w.heap.size ≤ w.heap.size + 1 + 1; omega) _
    have r1 : ((w5.setCell ⟨w.heap.size + 1, 0, none⟩ (.string (bs (textOf C)))).setCell ⟨w.heap.size + 1 + 1, 0, none⟩ (.bool true)).cell? ⟨w.heap.size + 1, 0, none⟩ = some (.string (bs (textOf C))) := by simp [World.cell?, HK6.out]
    have r2 : ((w5.setCell ⟨w.heap.size + 1, 0, none⟩ (.string (bs (textOf C)))).setCell ⟨w.heap.size + 1 + 1, 0, none⟩ (.bool true)).cell? ⟨w.heap.size + 1 + 1, 0, none⟩ = some (.bool true) := by simp [World.cell?, HK5.out]
    simp [Leaves, settle, results, Tryz.results55, go_sem, r1, r2]
    exact ⟨hE6, fun _ => rfl, fun h => by have := HLE.out; omega⟩
  · obtain ⟨h1, h2⟩ := wtW_cells w A N c
    have k1 := hc.heap h1 (by rintro (h | h) <;> omega)
    have k2 := hc.heap h2 (by rintro (h | h) <;> omega)
    have hE : Ext w w5 := hc.extOf (wtW_ext w A N c) (by rintro i (rfl | rfl) <;> omega)
    have k3 := heap_one (.string ⟨#[]⟩) k1
    have k4 := heap_other (d := w.heap.size + 1) 0 (.string ⟨#[]⟩) k2 (by omega)
    have k5 := heap_one (.bool false) k4
    have k6 := heap_other (d := w.heap.size + 1 + 1) 0 (.bool false) k3 (by omega)
    refine leaves_cons (f := 83) (args := #[.pointer (some ⟨w.heap.size + 1, 0, none⟩), .pointer (some ⟨w.heap.size + 1 + 1, 0, none⟩)]) (by simp) (by simp [go_sem]) ?_
    refine (catch_long (w.heap.size + 1) (w.heap.size + 1 + 1) (.string ⟨#[]⟩) (.bool false) [] w5 (by simp [World.cell?, k1]) (by simp [World.frozen?, k1]) (by simp [World.cell?, k2]) (by simp [World.frozen?, k2]) (by omega)).mono ?_
    rintro e u' w'' ⟨rfl, rfl, rfl⟩
    have hE6 : Ext w ((w5.setCell ⟨w.heap.size + 1, 0, none⟩ (.string ⟨#[]⟩)).setCell ⟨w.heap.size + 1 + 1, 0, none⟩ (.bool false)) := (hE.setNew (by show w.heap.size ≤ w.heap.size + 1; omega) _).setNew (by show w.heap.size ≤ w.heap.size + 1 + 1; omega) _
    have r1 : ((w5.setCell ⟨w.heap.size + 1, 0, none⟩ (.string ⟨#[]⟩)).setCell ⟨w.heap.size + 1 + 1, 0, none⟩ (.bool false)).cell? ⟨w.heap.size + 1, 0, none⟩ = some (.string ⟨#[]⟩) := by simp [World.cell?, k6]
    have r2 : ((w5.setCell ⟨w.heap.size + 1, 0, none⟩ (.string ⟨#[]⟩)).setCell ⟨w.heap.size + 1 + 1, 0, none⟩ (.bool false)).cell? ⟨w.heap.size + 1 + 1, 0, none⟩ = some (.bool false) := by simp [World.cell?, k5]
    simp [Leaves, settle, results, Tryz.results55, go_sem, r1, r2]
    exact ⟨hE6, fun h => by omega, fun _ => rfl⟩
theorem den_top_mem {G : List Nd} (hG : VG G) : ∀ (p : List Nat) (i : Nat) (t : Top), i < G.length → den G i p = some t → ∃ j, j < G.length ∧ t = top G j := by
  intro p
  induction p with
  | nil => intro i t hi h; simp [den] at h; exact ⟨i, hi, h.symm⟩
  | cons k p ih =>
    intro i t hi h
    rw [den_cons] at h
    cases hk : (kids G i)[k]? with
    | none => rw [hk] at h; cases h
    | some j =>
      rw [hk] at h
      exact ih j t (hG.kids hi (List.mem_of_getElem? hk)) h
theorem den_append {G : List Nd} : ∀ (p q : List Nat) (i : Nat), den G i (p ++ q) = match den G i p with | none => none | some _ => den G i (p ++ q) := by
  intro p q i
  cases h : den G i p with
  | some t => rfl
  | none =>
    simp only
    induction p generalizing i with
    | nil => simp [den] at h
    | cons k p ih =>
      rw [List.cons_append, den_cons]
      rw [den_cons] at h
      cases hk : (kids G i)[k]? with
      | none => rfl
      | some j => rw [hk] at h; exact ih j h
/-- Each node of the least graph stands at some place. -/
theorem Canon.path {C : List Nd} {D : List Nat → Option Top} (h : Canon C D) : ∀ k, k < C.length → ∃ p, ∀ q, D (p ++ q) = den C k q := by
  have := h.ord.all (P := fun k => ∃ p, ∀ q, D (p ++ q) = den C k q) (fun i ⟨p, hp⟩ j hj => by
    obtain ⟨n, hn, e⟩ := List.mem_iff_getElem.1 hj
    refine ⟨p ++ [n], fun q => ?_⟩
    rw [List.append_assoc, hp, List.singleton_append, den_cons, List.getElem?_eq_getElem hn, e]) (by
      intro i hi
      have : i = 0 := by simpa using hi
      subst this
      exact ⟨[], fun q => by rw [List.nil_append, h.root]⟩) (by simp)
  intro k hk
  exact this k (by simpa using hk)
/-- The tops of the least graph are tops of the graph. -/
theorem Canon.tops {C G : List Nd} {r : Nat} (h : Canon C (den G r)) (hG : VG G) (hr : r < G.length) : ∀ k, k < C.length → ∃ j, j < G.length ∧ top C k = top G j := by
  intro k hk
  obtain ⟨p, hp⟩ := h.path k hk
  have := hp []
  rw [List.append_nil, den_nil] at this
  exact den_top_mem hG p r _ hr this
theorem Canon.nr {C G : List Nd} {r : Nat} (h : Canon C (den G r)) (hG : VG G) (hr : r < G.length) (hn : NR G) : NR C := by
  intro n hnm
  obtain ⟨k, hk, rfl⟩ := List.mem_iff_getElem.1 hnm
  obtain ⟨j, hj, ht⟩ := h.tops hG hr k hk
  have := hn _ (nd_mem hj)
  have e : (nd C k).num = (nd G j).num := congrArg Top.num ht
  rw [← nd_eq hk, e]
  exact this
/-- What text hands back. -/
def textPost (G : List Nd) (root : Nat) (w : World) (e : Ending) (w' : World) : Prop :=
  Ext w w' ∧ ∃ C, Canon C (den G root) ∧ C.length ≤ G.length ∧ ((textOf C).length ≤ 4000 → e = .returned (.tuple #[.string (bs (textOf C)), .bool true])) ∧ (4000 < (textOf C).length → e = .returned (.tuple #[.string ⟨#[]⟩, .bool false]))
set_option maxRecDepth 100000 in
theorem text_any (G : List Nd) (hG : VG G) (hNR : NR G) (root N : Nat) (hN : G.length = N) (A : Option Addr) (c : Nat) (w : World) (hg : Gl w) (hr : NdsRd w A G) (hroot : root < N) (hmax : N ≤ 1000000) :
    Calls Tryz.prog 39 #[.agg #[.slice A N c, .int .i64 root]] w (textPost G root w) := by
  have HL := Lib.hid (fun W (hW : Ext w W) => least_any G hG root N hN A c W (hr.ext hW) hroot hmax)
  have HG := Lib.hid hg
  have HC := Lib.hid hG
  have HNR := Lib.hid hNR
  have HN := Lib.hid hN
  clear hg hr hG hNR hN
  go_enter Tryz.func39, Tryz.ntmps39
  go_wp2_with fail
  refine (HL.out _ ((Ext.rfl' _).alloc _)).mono ?_
  rintro e w1 ⟨C, v, rfl, n1, n2, n3, n4⟩
  obtain ⟨Av, cv, rfl, hcv⟩ := n1.shape
  have HE : Hid (Ext w w1) := Lib.hid (((Ext.rfl' w).alloc _).trans' n4)
  have N2 := Lib.hid n2
  have N3 := Lib.hid n3
  have HND := Lib.hid (n1.nd n2.vg (by omega))
  clear n1 n2 n3 n4
  go_wp2_with fail
  refine (wText_any C N2.out.vg (N2.out.nr HC.out (by rw [HN.out]; exact hroot) HNR.out) Av C.length cv rfl N2.out.pos (by have := N3.out; omega) w1 (HG.out.ext HE.out) HND.out).mono ?_
  rintro e w2 ⟨hx, ht, hf⟩
  have HX := Lib.hid hx
  clear hx
  by_cases hl : (textOf C).length ≤ 4000
  · obtain rfl := ht hl
    have HL2 := Lib.hid hl
    clear ht hf hl
    go_wp2
    go_ret2
    exact ⟨HE.out.trans' HX.out, C, N2.out, by have := N3.out; have := HN.out; omega, fun _ => rfl, fun h => by have := HL2.out; omega⟩
  · have hl' : 4000 < (textOf C).length := by omega
    obtain rfl := hf hl'
    have HL2 := Lib.hid hl
    clear ht hf hl hl'
    go_wp2
    go_ret2
    exact ⟨HE.out.trans' HX.out, C, N2.out, by have := N3.out; have := HN.out; omega, fun h => absurd h HL2.out, fun _ => rfl⟩
/-- What Text hands back. -/
def TextPost (G : List Nd) (root : Int) (w : World) (e : Ending) (w' : World) : Prop :=
  Ext w w' ∧ (validT G root = true → ∃ C, Canon C (den G root.toNat) ∧ C.length ≤ G.length ∧ ((textOf C).length ≤ 4000 → e = .returned (.tuple #[.string (bs (textOf C)), .int .i64 0])) ∧ (4000 < (textOf C).length → e = .returned (.tuple #[.string ⟨#[]⟩, .int .i64 3]))) ∧
    (validT G root = false → e = .returned (.tuple #[.string ⟨#[]⟩, .int .i64 2]))
set_option maxRecDepth 100000 in
theorem Text_any (G : List Nd) (hNR : NR G) (root : Int) (A : Option Addr) (c N : Nat) (w : World) (hg : Gl w) (hr : NdsRd w A G) (hroot : root ≤ 9223372036854775807) (hN : G.length = N) :
    Calls Tryz.prog 17 #[.agg #[.slice A N c, .int .i64 root]] w (TextPost G root w) := by
  have HV : Hid (∀ W, Ext w W → _) := Lib.hid fun W hW => valid_call G root A c N w W hr hroot hN hW
  cases hvt : validT G root with
  | false =>
    clear hr hg hN hNR
    have HVT := Lib.hid hvt
    clear hvt
    go_enter Tryz.func17, Tryz.ntmps17
    go_wp2_with fail
    refine (HV.out _ ((Ext.rfl' _).alloc _)).mono ?_
    rw [HVT.out]
    rintro e w1 ⟨rfl, hx⟩
    have HX := Lib.hid (((Ext.rfl' w).alloc _).trans' hx)
    clear hx
    go_wp2
    go_ret2
    unfold TextPost
    rw [HVT.out]
    exact ⟨HX.out, (fun h => absurd h (by simp)), fun _ => rfl⟩
  | true =>
    obtain ⟨v1, v2, v3, v4, v5⟩ := validT_iff.1 hvt
    obtain ⟨r, rfl⟩ := Int.eq_ofNat_of_zero_le v3
    have hrN : r < N := by omega
    have HT : Hid (∀ W, Ext w W → Calls Tryz.prog 39 #[.agg #[.slice A N c, .int .i64 r]] W _) := Lib.hid fun W hW => text_any G v5 hNR r N hN A c W (hg.ext hW) (hr.ext hW) hrN (by omega)
    have HVT := Lib.hid hvt
    clear hvt v1 v2 v3 v4 v5 hr hg hN hNR
    go_enter Tryz.func17, Tryz.ntmps17
    go_wp2_with fail
    refine (HV.out _ ((Ext.rfl' _).alloc _)).mono ?_
    rw [HVT.out]
    rintro e w1 ⟨rfl, hx⟩
    have b8 : w1.cell? ⟨w.heap.size, 0, none⟩ = some (.slice A N c) := hx.cell (by simp)
    have b9 : w1.cell? ⟨w.heap.size, 1, none⟩ = some (.int .i64 r) := hx.cell (by simp)
    have HX := Lib.hid (((Ext.rfl' w).alloc _).trans' hx)
    clear hx
    go_wp2_with fail
    refine (HT.out _ HX.out).mono ?_
    rintro e w2 ⟨hx, C, hC, hlC, ht, hf⟩
    have HX2 := Lib.hid (HX.out.trans' hx)
    have HC := Lib.hid hC
    have HLC := Lib.hid hlC
    clear hx hC hlC b8 b9
    by_cases hl : (textOf C).length ≤ 4000
    · obtain rfl := ht hl
      have HL2 := Lib.hid hl
      clear ht hf hl
      go_wp2
      go_ret2
      exact ⟨HX2.out, fun _ => ⟨C, by simpa using HC.out, HLC.out, fun _ => rfl, fun h => by have := HL2.out; omega⟩, fun h => by rw [HVT.out] at h; cases h⟩
    · have hl' : 4000 < (textOf C).length := by omega
      obtain rfl := hf hl'
      have HL2 := Lib.hid hl
      clear ht hf hl hl'
      go_wp2
      go_ret2
      exact ⟨HX2.out, fun _ => ⟨C, by simpa using HC.out, HLC.out, fun h => absurd h HL2.out, fun _ => rfl⟩, fun h => by rw [HVT.out] at h; cases h⟩
end Go.Proofs.YtnleljpebnnhfaaGreatDoor

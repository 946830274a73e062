/- The reader, first part. -/
import Derived.Test.YtnleljpebnnhfaaGreatDoorZk
import Derived.Deep.RegionLaw

set_option linter.unusedSimpArgs false
set_option linter.unusedVariables false
namespace Go.Proofs.YtnleljpebnnhfaaGreatDoor
open Go.RowKit
/-- The reader's block. -/
def RdB (S : List UInt8) (bm : Nat) (w : World) (b at_ : Nat) (v : Value) : Prop :=
  w.heap[b]? = some (.cells #[.string (bs S), .int .i64 at_, v, .int .i64 0, .map (some bm)] 84 (0, 0))
theorem RdB.cells {S : List UInt8} {bm : Nat} {w : World} {b at_ : Nat} {v : Value} (h : RdB S bm w b at_ v) :
    w.cell? ⟨b, 0, none⟩ = some (.string (bs S)) ∧ w.cell? ⟨b, 1, none⟩ = some (.int .i64 at_) ∧ w.cell? ⟨b, 2, none⟩ = some v ∧ w.cell? ⟨b, 4, none⟩ = some (.map (some bm)) ∧ (∀ i, w.frozen? ⟨b, i, none⟩ = false) := by
  unfold RdB at h
  refine ⟨?_, ?_, ?_, ?_, fun i => ?_⟩ <;> simp [World.cell?, World.frozen?, h]
theorem RdB.setAt {S : List UInt8} {bm : Nat} {w : World} {b at_ : Nat} {v : Value} (h : RdB S bm w b at_ v) (n : Nat) : RdB S bm (w.setCell ⟨b, 1, none⟩ (.int .i64 n)) b n v := by
  unfold RdB at h ⊢
  simp [World.setCell, Array.getElem?_modify, h]
theorem RdB.setAtI {S : List UInt8} {bm : Nat} {w : World} {b at_ : Nat} {v : Value} (h : RdB S bm w b at_ v) (n : Nat) (x : Int) (hx : x = n) : RdB S bm (w.setCell ⟨b, 1, none⟩ (.int .i64 x)) b n v := by
  rw [hx]; exact h.setAt n
theorem RdB.setV {S : List UInt8} {bm : Nat} {w : World} {b at_ : Nat} {v : Value} (h : RdB S bm w b at_ v) (u : Value) : RdB S bm (w.setCell ⟨b, 2, none⟩ u) b at_ u := by
  unfold RdB at h ⊢
  simp [World.setCell, Array.getElem?_modify, h]
theorem RdB.ext {S : List UInt8} {bm : Nat} {w w' : World} {b at_ : Nat} {v : Value} (h : RdB S bm w b at_ v) (k : Ext w w') : RdB S bm w' b at_ v := k.heap h
theorem RdB.lt {S : List UInt8} {bm : Nat} {w : World} {b at_ : Nat} {v : Value} (h : RdB S bm w b at_ v) : b < w.heap.size := (Array.getElem?_eq_some_iff.1 h).1
theorem RdB.chg {S : List UInt8} {bm : Nat} {w w' : World} {b at_ : Nat} {v : Value} (h : RdB S bm w b at_ v) {T : Nat → Prop} (k : ChgS T w w') (hT : ¬ T b) : RdB S bm w' b at_ v := k.heap h hT
/-- The panic of a string that is no text. -/
def wrongP : Ending := .panicked [{ v := .iface 80 (.agg #[]), recovered := false }]
theorem bs_get (S : List UInt8) (k : Nat) (h : k < (bs S).size) : ((bs S)[k]'h).toNat = hd (S.drop k) := by
  have hk : k < S.length := by rw [bs_size] at h; exact h
  rw [List.drop_eq_getElem_cons hk]
  show _ = (S[k]).toNat
  rfl
theorem hd_drop_none (S : List UInt8) (k : Nat) (h : S.length ≤ k) : hd (S.drop k) = 0 := by
  rw [List.drop_of_length_le h]; rfl
set_option maxHeartbeats 400000 in
theorem peek_any (S : List UInt8) (hS : S.length ≤ 4000) (bm b at_ : Nat) (v : Value) (w : World) (h : RdB S bm w b at_ v) (ha : at_ ≤ S.length) :
    Calls Tryz.prog 87 #[.pointer (some ⟨b, 0, none⟩)] w fun e w' => e = .returned (.int .u8 (hd (S.drop at_))) ∧ ∃ n, w' = w.drewN n := by
  obtain ⟨c0, c1, c2, c4, cz⟩ := h.cells
  have hs := bs_size S
  have HS := Lib.hid hs
  by_cases hlt : at_ < S.length
  · have hlt' : at_ < (bs S).size := by rw [hs]; exact hlt
    have hsz : (bs S).size ≤ 4000 := by rw [hs]; exact hS
    clear c2 c4 cz h hs
    go_enter Tryz.func87, Tryz.ntmps87
    go_wp2
    go_quiet (fail)
    go_wp2
    go_quiet (fail)
    go_wp2
    go_ret
    exact ⟨retI (by rw [bs_get]), _, World.drewN_drewN _ _ _⟩
  · have hlt' : ¬ at_ < (bs S).size := by rw [hs]; exact hlt
    have hd0 := Lib.hid (hd_drop_none S at_ (by omega))
    have hsz : (bs S).size ≤ 4000 := by rw [hs]; exact hS
    clear c2 c4 cz h hs hlt
    go_enter Tryz.func87, Tryz.ntmps87
    go_wp2
    go_quiet (fail)
    go_wp2
    go_ret
    exact ⟨retI (by rw [hd0.out]; rfl), _, rfl⟩
theorem hd_pos_lt {S : List UInt8} {k : Nat} (h : hd (S.drop k) ≠ 0) : k < S.length := by
  rcases Nat.lt_or_ge k S.length with h1 | h1
  · exact h1
  · exact absurd (hd_drop_none S k h1) h
set_option maxHeartbeats 400000 in
theorem eat_yes (S : List UInt8) (hS : S.length ≤ 4000) (bm b at_ : Nat) (v : Value) (w : World) (h : RdB S bm w b at_ v) (ha : at_ ≤ S.length) (c : Nat) (hc0 : c ≠ 0) (hc : hd (S.drop at_) = c) :
    Calls Tryz.prog 91 #[.pointer (some ⟨b, 0, none⟩), .int .u8 c] w fun e w' => e = .returned (.tuple #[]) ∧ RdB S bm w' b (at_ + 1) v ∧ ChgS (fun i => i = b) w w' := by
  have hlt := hd_pos_lt (S := S) (k := at_) (by omega)
  obtain ⟨c0, c1, c2, c4, cz⟩ := h.cells
  have hs := bs_size S
  have hlt' : at_ < (bs S).size := by rw [hs]; exact hlt
  have hsz : (bs S).size ≤ 4000 := by rw [hs]; exact hS
  have hb : ((hd (S.drop at_) : Int) != (c : Int)) = false := by simp [hc]
  have hge : decide (((bs S).size : Int) ≤ (at_ : Int)) = false := by simp; omega
  have HP := Lib.hid (fun n => peek_any S hS bm b at_ v (w.drewN n) (h.ext (Ext.of_drewN w n)) ha)
  have H := Lib.hid h
  clear c2 c4 h hs hlt hc
  go_enter Tryz.func91, Tryz.ntmps91
  go_wp2
  go_quiet ((go_at_call 87; exact Calls.quiet_of (HP.out _)))
  go_wp2
  go_end0
  exact ⟨rfl, (H.out.ext (Ext.of_drewN w nq)).setAtI (at_ + 1) _ (by simp), ((ChgS.of_ext (S := fun i => i = b) (Ext.of_drewN w nq)).set (.inl rfl) _ _)⟩
set_option maxHeartbeats 400000 in
theorem eat_no (S : List UInt8) (hS : S.length ≤ 4000) (bm b at_ : Nat) (v : Value) (w : World) (h : RdB S bm w b at_ v) (ha : at_ ≤ S.length) (c : Nat) (hc : hd (S.drop at_) ≠ c) :
    Calls Tryz.prog 91 #[.pointer (some ⟨b, 0, none⟩), .int .u8 c] w fun e w' => e = wrongP ∧ ChgS (fun i => i = b) w w' := by
  have hb : ((hd (S.drop at_) : Int) != (c : Int)) = true := by simp; omega
  have HP := Lib.hid (fun n => peek_any S hS bm b at_ v (w.drewN n) (h.ext (Ext.of_drewN w n)) ha)
  clear h hc
  go_enter Tryz.func91, Tryz.ntmps91
  go_wp2
  go_quiet ((go_at_call 87; exact Calls.quiet_of (HP.out _)))
  go_wp2
  exact ⟨rfl, rfl, ChgS.of_ext (Ext.of_drewN w nq)⟩
theorem eat_any (S : List UInt8) (hS : S.length ≤ 4000) (bm b at_ : Nat) (v : Value) (w : World) (h : RdB S bm w b at_ v) (ha : at_ ≤ S.length) (c : Nat) (hc0 : c ≠ 0) :
    Calls Tryz.prog 91 #[.pointer (some ⟨b, 0, none⟩), .int .u8 c] w fun e w' => ChgS (fun i => i = b) w w' ∧ ((hd (S.drop at_) = c ∧ e = .returned (.tuple #[]) ∧ RdB S bm w' b (at_ + 1) v ∧ at_ + 1 ≤ S.length) ∨ (hd (S.drop at_) ≠ c ∧ e = wrongP)) := by
  by_cases hc : hd (S.drop at_) = c
  · exact (eat_yes S hS bm b at_ v w h ha c hc0 hc).mono fun e w' ⟨h1, h2, h3⟩ => ⟨h3, .inl ⟨hc, h1, h2, hd_pos_lt (S := S) (k := at_) (by omega)⟩⟩
  · exact (eat_no S hS bm b at_ v w h ha c hc).mono fun e w' ⟨h1, h2⟩ => ⟨h2, .inr ⟨hc, h1⟩⟩
end Go.Proofs.YtnleljpebnnhfaaGreatDoor

set_option linter.unusedSimpArgs false
set_option linter.unusedVariables false
namespace Go.Proofs.YtnleljpebnnhfaaGreatDoor
open Go.RowKit
theorem drop_cons {S : List UInt8} {k : Nat} (h : k < S.length) : S.drop k = S[k] :: S.drop (k + 1) := List.drop_eq_getElem_cons h
/-- Letters from a place on. -/
def lets (S : List UInt8) (k : Nat) : Nat := ((S.drop k).takeWhile letB).length
theorem lets_step {S : List UInt8} {k : Nat} (h : k < S.length) (hl : letB S[k] = true) : lets S k = lets S (k + 1) + 1 := by
  unfold lets
  rw [drop_cons h, List.takeWhile_cons, if_pos hl]; simp
theorem lets_stop {S : List UInt8} {k : Nat} (h : k < S.length) (hl : letB S[k] = false) : lets S k = 0 := by
  unfold lets
  rw [drop_cons h, List.takeWhile_cons, if_neg (by simp [hl])]; rfl
theorem lets_end {S : List UInt8} {k : Nat} (h : S.length ≤ k) : lets S k = 0 := by
  unfold lets
  rw [List.drop_of_length_le h]; rfl
theorem takeWhile_take (l : List UInt8) (p : UInt8 → Bool) : l.takeWhile p = l.take (l.takeWhile p).length ∧ l.dropWhile p = l.drop (l.takeWhile p).length := by
  induction l with
  | nil => simp
  | cons a l ih =>
    by_cases h : p a = true
    · simp [List.takeWhile_cons, List.dropWhile_cons, h, ← ih.1, ← ih.2]
    · simp [List.takeWhile_cons, List.dropWhile_cons, h]
/-- How many bytes the word at a place has. -/
def wlen (S : List UInt8) (k : Nat) : Nat := (wordT (S.drop k)).1.length
theorem wordT_at (S : List UInt8) (k : Nat) : wordT (S.drop k) = ((S.drop k).take (wlen S k), S.drop (k + wlen S k)) := by
  have h := wordT_join (S.drop k)
  have e1 : (wordT (S.drop k)).1 = (S.drop k).take (wlen S k) := by
    have : (S.drop k).take (wlen S k) = ((wordT (S.drop k)).1 ++ (wordT (S.drop k)).2).take (wlen S k) := by rw [h]
    rw [this]
    show _ = ((wordT (S.drop k)).1 ++ (wordT (S.drop k)).2).take (wordT (S.drop k)).1.length
    rw [List.take_left]
  have e2 : (wordT (S.drop k)).2 = S.drop (k + wlen S k) := by
    have : (S.drop k).drop (wlen S k) = ((wordT (S.drop k)).1 ++ (wordT (S.drop k)).2).drop (wlen S k) := by rw [h]
    rw [List.drop_drop] at this
    rw [this]
    show _ = ((wordT (S.drop k)).1 ++ (wordT (S.drop k)).2).drop (wordT (S.drop k)).1.length
    rw [List.drop_left]
  rw [← e1, ← e2]
theorem wlen_eq (S : List UInt8) (k : Nat) : wlen S k = if (hd (S.drop k) = 124 ∨ hd (S.drop k) = 35 ∨ hd (S.drop k) = 45) then lets S (k + 1) + 1 else lets S k := by
  unfold wlen
  rcases Nat.lt_or_ge k S.length with h | h
  · rw [drop_cons h, wordT_cons, hd_cons]
    by_cases hm : markB S[k] = true
    · have h2 : S[k].toNat = 124 ∨ S[k].toNat = 35 ∨ S[k].toNat = 45 := by simpa [markB, or_assoc] using hm
      rw [if_pos hm, if_pos h2]
      simp [lets]
    · have h2 : ¬ (S[k].toNat = 124 ∨ S[k].toNat = 35 ∨ S[k].toNat = 45) := fun h2 => hm (by simpa [markB, or_assoc] using h2)
      rw [if_neg hm, if_neg h2]
      simp only [lets]
      rw [drop_cons h]
  · rw [List.drop_of_length_le h, if_neg (by simp [hd_nil])]
    simp [wordT, lets_end h]
theorem wlen_le (S : List UInt8) (k : Nat) (h : k ≤ S.length) : k + wlen S k ≤ S.length := by
  have := wordT_le (S.drop k)
  simp only [List.length_drop] at this
  unfold wlen
  omega
/-- The word at a place. -/
def wd (S : List UInt8) (k : Nat) : List UInt8 := (S.drop k).take (wlen S k)
theorem extract_bs (S : List UInt8) (k n : Nat) (h : k + n ≤ S.length) : (bs S).extract k (k + n) = bs ((S.drop k).take n) := by
  apply ByteArray.ext
  apply Array.ext'
  rw [Go.Lib.extract_data]
  simp [bs]
theorem letter_q (c : Nat) (w : World) : Calls Tryz.prog 111 #[.int .u8 c] w fun e w' => e = .returned (.bool (isLetterN c)) ∧ w' = w :=
  (letter_any c w).mono fun _ _ ⟨h1, h2⟩ => ⟨h1, h2.symm⟩
theorem letB_bs (S : List UInt8) (k : Nat) (h : k < S.length) (h' : k < (bs S).size) : isLetterN ((bs S)[k]'h').toNat = letB S[k] := rfl
set_option maxHeartbeats 2000000 in
theorem word_reads (S : List UInt8) (hS : S.length ≤ 4000) (bm b at_ : Nat) (v : Value) (w : World) (h : RdB S bm w b at_ v) (ha : at_ ≤ S.length) :
    Calls Tryz.prog 89 #[.pointer (some ⟨b, 0, none⟩)] w fun e w' => e = .returned (.string (bs (wd S at_))) ∧ RdB S bm w' b (at_ + wlen S at_) v ∧ ChgS (fun i => i = b) w w' := by
  obtain ⟨c0, c1, c2, c4, cz⟩ := h.cells
  have HP := Lib.hid (peek_any S hS bm b at_ v w h ha)
  have H := Lib.hid h
  have HW := Lib.hid (wlen_eq S at_)
  have HE := Lib.hid (extract_bs S at_ (wlen S at_) (wlen_le S at_ ha))
  have hwl := wlen_le S at_ ha
  have hsz : (bs S).size ≤ 4000 := by rw [bs_size]; exact hS
  have HZ := Lib.hid (bs_size S)
  clear c2 c4 h
  go_enter Tryz.func89, Tryz.ntmps89
  go_wp2_with fail
  refine HP.out.mono ?_
  rintro e w1 ⟨rfl, n, rfl⟩
  clear HP
  go_wp2
  all_goals
    go_loopg [] (S.length) (fun gk wr => ∃ q, q ≤ S.length ∧ at_ ≤ q ∧ S.length - q ≤ gk ∧ RdB S bm wr b q v ∧ ChgS (fun i => i = b) w wr ∧ q + lets S q = at_ + wlen S at_)
    case atStart =>
      first
        | (have hm : hd (S.drop at_) = 124 ∨ hd (S.drop at_) = 35 ∨ hd (S.drop at_) = 45 := by
            first | omega | (simp_all; done) | (simp_all; omega)
           have hlt := hd_pos_lt (S := S) (k := at_) (by omega)
           have hw := HW.out
           rw [if_pos hm] at hw
           exact ⟨at_ + 1, by omega, by omega, by omega, (H.out.ext (Ext.of_drewN w n)).setAtI (at_ + 1) _ (by simp), (ChgS.of_ext (S := fun i => i = b) (Ext.of_drewN w n)).set (.inl rfl) _ _, by omega⟩)
        | (have hm : ¬ (hd (S.drop at_) = 124 ∨ hd (S.drop at_) = 35 ∨ hd (S.drop at_) = 45) := by
            first | omega | (simp_all; done) | (simp_all; omega)
           have hw := HW.out
           rw [if_neg hm] at hw
           exact ⟨at_, by omega, by omega, by omega, H.out.ext (Ext.of_drewN w n), ChgS.of_ext (Ext.of_drewN w n), by omega⟩)
    case round =>
      obtain ⟨q, hq, haq, hgk, hb, hch, hln⟩ := hrel
      obtain ⟨d0, d1, d2, d4, dz⟩ := hb.cells
      have HB := Lib.hid hb
      have HCH := Lib.hid hch
      have HLN := Lib.hid hln
      by_cases hlt : q < S.length
      · have hlt' : q < (bs S).size := by rw [bs_size]; exact hlt
        cases hl : letB S[q] with
        | true =>
          have hl' : isLetterN ((bs S)[q]'hlt').toNat = true := by rw [letB_bs S q hlt hlt']; exact hl
          have HL := Lib.hid hl
          clear d2 d4 hb hch hln hl c0 c1 cz
          go_wp2
          go_quiet ((go_at_call 111; exact Calls.quiet_of_same (letter_q _ _)))
          go_wp2
          go_roundg (S.length - (q + 1))
          case measure => omega
          case rel => exact ⟨q + 1, by omega, by omega, by omega, (HB.out.ext (Ext.of_drewN wr nq)).setAtI (q + 1) _ (by simp), (HCH.out.drewN nq).set (.inl rfl) _ _, by have := HLN.out; have := lets_step hlt HL.out; omega⟩
        | false =>
          have hl' : isLetterN ((bs S)[q]'hlt').toNat = false := by rw [letB_bs S q hlt hlt']; exact hl
          have HL := Lib.hid hl
          have hq2 : q = at_ + wlen S at_ := by have := HLN.out; have := lets_stop hlt hl; omega
          have HQ := Lib.hid hq2
          clear d2 d4 hb hch hln hl c0 c1 cz hq2
          go_wp2
          go_quiet ((go_at_call 111; exact Calls.quiet_of_same (letter_q _ _)))
          go_wp2
          go_quiet (fail)
          go_wp2
          go_ret
          refine ⟨?_, ?_, ?_⟩
          · show Ending.returned (Value.string ((bs S).extract at_ q)) = _
            rw [HQ.out, HE.out]; rfl
          · rw [← HQ.out]; exact (HB.out.ext (Ext.of_drewN _ _)).ext (Ext.of_drewN _ _)
          · exact (HCH.out.drewN _).drewN _
      · have hlt' : ¬ q < (bs S).size := by rw [bs_size]; exact hlt
        have hq2 : q = at_ + wlen S at_ := by have := HLN.out; have := lets_end (S := S) (k := q) (by omega); omega
        have HQ := Lib.hid hq2
        have hqs : q ≤ (bs S).size := by rw [bs_size]; exact hq
        clear d2 d4 hb hch hln c0 c1 cz hq2 hlt
        go_wp2
        go_quiet (fail)
        go_wp2
        go_quiet (fail)
        go_wp2
        go_ret
        refine ⟨?_, ?_, ?_⟩
        · show Ending.returned (Value.string ((bs S).extract at_ q)) = _
          rw [HQ.out, HE.out]; rfl
        · rw [← HQ.out]; exact (HB.out.ext (Ext.of_drewN _ _)).ext (Ext.of_drewN _ _)
        · exact (HCH.out.drewN _).drewN _
theorem wd_length (S : List UInt8) (k : Nat) (h : k ≤ S.length) : (wd S k).length = wlen S k := by
  unfold wd
  rw [List.length_take, List.length_drop]
  have := wlen_le S k h
  omega
theorem errNe (N : Nat) (W : World) : (binOp .neq 106 (.iface 142 (.pointer (some ⟨N, 0, none⟩))) .nilIface).run Tryz.prog W = .ok (.bool true) W := by kernel_rfl
theorem nilNe (W : World) : (binOp .neq 106 .nilIface .nilIface).run Tryz.prog W = .ok (.bool false) W := by kernel_rfl
/-- What number leaves. -/
def NumPost (S : List UInt8) (bm b at_ : Nat) (v : Value) (w0 w : World) (e : Ending) (w' : World) : Prop :=
  ChgS (fun i => i = b) w w' ∧ ((∃ n, numOf (wd S at_) = some n ∧ -9223372036854775808 ≤ n ∧ n ≤ 9223372036854775807 ∧ e = .returned (.int .i64 n) ∧ RdB S bm w' b (at_ + wlen S at_) v) ∨ (numOf (wd S at_) = none ∧ e = wrongP))
set_option maxHeartbeats 1000000 in
theorem number_any (S : List UInt8) (hS : S.length ≤ 4000) (bm b at_ : Nat) (v : Value) (w0 w : World) (hg : Gl w0) (hE : Ext w0 w) (hb : w0.heap.size ≤ b) (h : RdB S bm w b at_ v) (ha : at_ ≤ S.length) :
    Calls Tryz.prog 92 #[.pointer (some ⟨b, 0, none⟩)] w (NumPost S bm b at_ v w0 w) := by
  have HW := Lib.hid (word_reads S hS bm b at_ v w h ha)
  have hle := wlen_le S at_ ha
  have hlen := wd_length S at_ ha
  have HG := Lib.hid hg
  have HE := Lib.hid hE
  have HLE : Hid ((wd S at_).length ≤ 4000) := Lib.hid (by omega)
  clear hg hE h hlen
  go_enter Tryz.func92, Tryz.ntmps92
  go_wp2_with fail
  refine HW.out.mono ?_
  rintro e w1 ⟨rfl, hb1, hc1⟩
  have HB1 := Lib.hid hb1
  have HC1 := Lib.hid hc1
  have HE1 : Hid (Ext w0 w1) := Lib.hid (hc1.extOf HE.out (by rintro i rfl; exact hb))
  clear hb1 hc1 HW
  go_wp2_with fail
  refine (atoi_any (wd S at_) (by have := HLE.out; omega) w1 (HG.out.ext HE1.out)).mono ?_
  rintro e w2 ⟨hx, ⟨n, hn, h1, h2, rfl⟩ | ⟨hn, n, N, rfl⟩⟩
  · have HX := Lib.hid hx
    have HN := Lib.hid hn
    have hne := nilNe
    clear hx hn
    go_wp2
    go_ret
    exact ⟨HC1.out.ext HX.out, .inl ⟨n, HN.out, h1, h2, rfl, HB1.out.ext HX.out⟩⟩
  · have HX := Lib.hid hx
    have HN := Lib.hid hn
    have hne := errNe N
    clear hx hn
    go_wp2
    exact ⟨rfl, HC1.out.ext HX.out, .inr ⟨HN.out, rfl⟩⟩
end Go.Proofs.YtnleljpebnnhfaaGreatDoor

set_option linter.unusedSimpArgs false
set_option linter.unusedVariables false
namespace Go.Proofs.YtnleljpebnnhfaaGreatDoor
open Go.RowKit
/-- What a reader keeps. -/
structure RdS (S : List UInt8) (bm b M : Nat) (w0 w : World) (at_ : Nat) (rows : List (Nd × Value)) (v : Value) (m : List (Int × Int)) : Prop where
  ext : Ext w0 w
  blk : RdB S bm w b at_ v
  map : MapIs iv Fits iv w bm m
  own : OwnN w M v rows
  size : M ≤ w.heap.size
/-- Where its things lie. -/
structure RdOk (bm b M : Nat) (w0 : World) : Prop where
  hb : w0.heap.size ≤ b ∧ b < M
  hm : w0.heap.size ≤ bm ∧ bm < M
  ne : b ≠ bm
def RMay (bm b : Nat) (v : Value) (i : Nat) : Prop := i = b ∨ i = bm ∨ v.ownBlock = some i
theorem RdS.of_ext {S : List UInt8} {bm b M : Nat} {w0 w w' : World} {at_ : Nat} {rows : List (Nd × Value)} {v : Value} {m : List (Int × Int)} (h : RdS S bm b M w0 w at_ rows v m) (k : Ext w w') : RdS S bm b M w0 w' at_ rows v m :=
  ⟨h.ext.trans' k, h.blk.ext k, h.map.ext k, h.own.ext k, Nat.le_trans h.size k.size⟩
theorem RdS.low {S : List UInt8} {bm b M : Nat} {w0 w : World} {at_ : Nat} {rows : List (Nd × Value)} {v : Value} {m : List (Int × Int)} (h : RdS S bm b M w0 w at_ rows v m) {g : Nat} (hg : v.ownBlock = some g) : M ≤ g := (h.own.block hg).1
/-- The reader's own block turned. -/
theorem RdS.chgB {S : List UInt8} {bm b M : Nat} {w0 w w' : World} {at_ at' : Nat} {rows : List (Nd × Value)} {v : Value} {m : List (Int × Int)} (ok : RdOk bm b M w0) (h : RdS S bm b M w0 w at_ rows v m) (k : ChgS (fun i => i = b) w w') (hb : RdB S bm w' b at' v) : RdS S bm b M w0 w' at' rows v m :=
  ⟨k.extOf h.ext (by rintro i rfl; exact ok.hb.1), hb, k.map h.map (fun e => ok.ne e.symm), k.ownN h.own (fun g hg e => by have := h.low hg; have := ok.hb; omega) (fun r hr g hg e => by have := ((h.own.args r hr).block hg).1; have := ok.hb; omega), Nat.le_trans h.size k.size⟩
/-- The map turned. -/
theorem RdS.chgM {S : List UInt8} {bm b M : Nat} {w0 w w' : World} {at_ : Nat} {rows : List (Nd × Value)} {v : Value} {m m' : List (Int × Int)} (ok : RdOk bm b M w0) (h : RdS S bm b M w0 w at_ rows v m) (k : ChgS (fun i => i = bm) w w') (hm : MapIs iv Fits iv w' bm m') : RdS S bm b M w0 w' at_ rows v m' :=
  ⟨k.extOf h.ext (by rintro i rfl; exact ok.hm.1), h.blk.chg k ok.ne, hm, k.ownN h.own (fun g hg e => by have := h.low hg; have := ok.hm; omega) (fun r hr g hg e => by have := ((h.own.args r hr).block hg).1; have := ok.hm; omega), Nat.le_trans h.size k.size⟩
section
variable {ops : Array Oper} {o : Oper} {a : Act} {w : World} {K : Act → World → Prop} {Q : Exit → Act → World → Prop} {E : Prop}
/-- append of a node, within a drawn region. -/
theorem step_app22 (hgd : o.guard = none) (s x : Operand) (ho : o.op = .call { callee := .builtin .append, args := #[s, x], argTypes := #[22, 22] })
    (base : Nat) (v : Value) (rows : List (Nd × Value)) (hs : a.eval s = v) (hown : OwnN w base v rows) (g c : Nat) (y : Nd × Value) (hx : a.eval x = .slice (some ⟨g, 0, none⟩) 1 c)
    (c0 : w.cell? ⟨g, 0, none⟩ = some (.int .i64 y.1.kind)) (c1 : w.cell? ⟨g, 1, none⟩ = some (.int .i64 y.1.num)) (c2 : w.cell? ⟨g, 2, none⟩ = some (.string y.1.label)) (c3 : w.cell? ⟨g, 3, none⟩ = some y.2)
    (hy : OwnI w base y.2 y.1.args) (hyn : y.1.args = [] → y.2 = .slice none 0 0) (hlen : rows.length ≤ 1000000) (hbase : base ≤ w.heap.size)
    (h : ∀ v' w', OwnN w' base v' (rows ++ [y]) → w.grownBy w' v.ownBlock → (v'.ownBlock = v.ownBlock ∨ v'.ownBlock = some w.heap.size) → K (a.put o.dst v') w') :
    if Region.wanted o (yielded ops a.tmps) = true then Oper.wp Tryz.prog o a w K Q else E := by
  have hw : Region.wanted o (yielded ops a.tmps) = true := by simp [Region.wanted, hgd]
  rw [if_pos hw]
  obtain ⟨i, hi, hzz⟩ := Option.map_eq_some_iff.1 info46
  simp only [Prod.mk.injEq] at hzz
  obtain ⟨v', w', hr, h1, h2, _, h4⟩ := run_append_own_at (P := Tryz.prog) w base 22 o.type 46 i _ 4 56 (by kernel_rfl) hi hzz.1 hzz.2.1 hzz.2.2 rfl (by omega) v rows.length (rows.flatMap cellsN) hown.own ⟨g, 0, none⟩ 1 c (cellsN y) (by simp [cellsN]) (by
    intro j u hj
    rw [Addr.add_lit, Nat.zero_add]
    match j, hj with
    | 0, hj => simp [cellsN] at hj; subst hj; exact c0
    | 1, hj => simp [cellsN] at hj; subst hj; exact c1
    | 2, hj => simp [cellsN] at hj; subst hj; exact c2
    | 3, hj => simp [cellsN] at hj; subst hj; exact c3
    | n + 4, hj => simp [cellsN] at hj) (by
    intro u hu
    obtain ⟨A, cc, e, _⟩ := hy.shape
    simp only [cellsN, List.mem_cons, List.not_mem_nil, or_false] at hu
    rcases hu with rfl | rfl | rfl | rfl
    · rfl
    · rfl
    · rfl
    · rw [e]; rfl) (by simp only [maxLen]; omega) (by omega) hbase
  unfold Oper.wp execOp
  simp only [ho, resolve, invoke, builtin, Sem.run_bind, Sem.run_pure, Result.andThen_ok, List.map_toArray, List.map_cons, List.map_nil, hs, hx, hr]
  refine h v' w' ⟨by simpa using h1, fun r hr => ?_, fun r hr => ?_⟩ h2 h4
  · have hch : ChgS (fun i => v.ownBlock = some i) w w' := (ChgS.refl _ w).grown h2 fun i hi => .inl hi
    rcases List.mem_append.1 hr with hr | hr
    · exact hch.ownI (hown.args r hr) fun g hg => hown.apart (hown.args r hr) hg
    · obtain rfl := List.mem_singleton.1 hr
      exact hch.ownI hy fun g hg => hown.apart hy hg
  · rcases List.mem_append.1 hr with hr | hr
    · exact hown.nils r hr
    · obtain rfl := List.mem_singleton.1 hr
      exact hyn
end
/-- What add leaves. -/
def RAddPost (S : List UInt8) (bm b M : Nat) (w0 : World) (at_ : Nat) (rows : List (Nd × Value)) (v : Value) (m : List (Int × Int)) (n : Nd) (w : World) (e : Ending) (w' : World) : Prop :=
  e = .returned (.int .i64 (rows.length : Int)) ∧ ∃ v', RdS S bm b M w0 w' at_ (rows ++ [(n, .slice none 0 0)]) v' m ∧ ChgS (RMay bm b v) w w' ∧ (v'.ownBlock = v.ownBlock ∨ ∀ g, v'.ownBlock = some g → w.heap.size ≤ g)
set_option maxRecDepth 100000 in
set_option maxHeartbeats 1000000 in
theorem radd_any (S : List UInt8) (bm b M : Nat) (w0 : World) (ok : RdOk bm b M w0) (at_ : Nat) (rows : List (Nd × Value)) (v : Value) (m : List (Int × Int)) (n : Nd) (hn : n.args = []) (w : World) (h : RdS S bm b M w0 w at_ rows v m) (hl : rows.length ≤ 1000000) :
    Calls Tryz.prog 90 #[.pointer (some ⟨b, 0, none⟩), .agg #[.int .i64 n.kind, .int .i64 n.num, .string n.label, .slice none 0 0]] w (RAddPost S bm b M w0 at_ rows v m n w) := by
  obtain ⟨A, c, rfl, hc⟩ := h.own.shape
  obtain ⟨c0, c1, c2, c4, cz⟩ := h.blk.cells
  have hb := h.blk.lt
  have H := Lib.hid h
  have HN := Lib.hid hn
  have HOK := Lib.hid ok
  have c2' : ∀ ob, (w.alloc ob).cell? ⟨b, 2, none⟩ = some (.slice A rows.length c) := fun ob => ((Ext.rfl' w).alloc ob).cell c2
  have c2'' : ∀ ob ob', ((w.alloc ob).alloc ob').cell? ⟨b, 2, none⟩ = some (.slice A rows.length c) := fun ob ob' => (((Ext.rfl' w).alloc ob).alloc ob').cell c2
  clear h hn ok c0 c1 c4 c2
  go_enter Tryz.func90, Tryz.ntmps90
  go_wp2
  refine wp_region_any (by kernel_rfl) ?_
  change wpAny _ _ _ _ _ _ _ (World.drew _)
  refine wpAny_take (i := 0) (v := ?_) rfl (by kernel_rfl) (by kernel_rfl) (by kernel_rfl) (fun _ _ _ h => h) (Or.inl ⟨by rfl, ?_⟩) ?_
  rotate_left
  · (intro w; go_simp) <;> with_reducible rfl
  refine wpAny_take (i := 1) (v := ?_) rfl (by kernel_rfl) (by kernel_rfl) (by kernel_rfl) (fun _ _ _ h => h) (Or.inl ⟨by rfl, ?_⟩) ?_
  rotate_left
  · (intro w; go_simp) <;> with_reducible rfl
  refine wpAny_take (i := 2) (v := ?_) rfl (by kernel_rfl) (by kernel_rfl) (by kernel_rfl) (fun _ _ _ h => h) (Or.inl ⟨by rfl, ?_⟩) ?_
  rotate_left
  · (intro w; go_simp) <;> with_reducible rfl
  refine wpAny_take (i := 3) (v := ?_) rfl (by kernel_rfl) (by kernel_rfl) (by kernel_rfl) (fun _ _ _ h => h) (Or.inl ⟨by rfl, ?_⟩) ?_
  rotate_left
  · (intro w; go_simp) <;> with_reducible rfl
  refine wpAny_take (i := 4) (v := ?_) rfl (by kernel_rfl) (by kernel_rfl) (by kernel_rfl) (fun _ _ _ h => h) (Or.inl ⟨by rfl, ?_⟩) ?_
  rotate_left
  · (intro w; go_simp) <;> with_reducible rfl
  refine wpAny_ready (rs := [5, 6]) (by kernel_rfl) (by simp) ?_
  refine AllReady.cons rfl (fun K hK => ?_) ?_
  · go_simp
    refine hK _ _ ?_
    clear hK K
    refine wpAny_ready (rs := [6]) (by kernel_rfl) (by simp) ?_
    refine AllReady.cons rfl (fun K hK => ?_) ?_
    · go_simp
      refine hK _ _ ?_
      clear hK K
      refine wpAny_ready (rs := [7]) (by kernel_rfl) (by simp) ?_
      refine AllReady.cons rfl (fun K hK => ?_) ?_
      · go_simp
        refine hK _ _ ?_
        clear hK K
        refine wpAny_ready (rs := [8]) (by kernel_rfl) (by simp) ?_
        refine AllReady.cons rfl (fun K hK => ?_) ?_
        · refine step_app22 rfl _ _ rfl M (.slice A rows.length c) rows rfl (H.out.own.ext ((((Ext.rfl' _).alloc _).alloc _).drew)) (w.heap.size + 1) 1 (n, .slice none 0 0) rfl (by simp) (by simp) (by simp) (by simp) (by rw [HN.out]; exact OwnI.nil _ _) (fun _ => rfl) hl (by have := H.out.size; simp; omega) ?_
          intro v' w3 hown hgr hat
          have ok := HOK.out
          have hC : ChgS (fun g => (Value.slice A rows.length c).ownBlock = some g) w w3 := (((((ChgS.refl (fun g => (Value.slice A rows.length c).ownBlock = some g) w).alloc _).alloc _).drew).grown hgr fun i hi => .inl hi)
          have hb3 : RdB S bm w3 b at_ (.slice A rows.length c) := H.out.blk.chg hC (fun h => by have := H.out.low h; have := ok.hb; omega)
          have hm3 := hC.map H.out.map (fun h => by have := H.out.low h; have := ok.hm; omega)
          obtain ⟨A3, k3, rfl, hk3⟩ : ∃ A3 k3, v' = .slice A3 (rows.length + 1) k3 ∧ rows.length + 1 ≤ k3 := by simpa using hown.shape
          have d2 := hb3.cells.2.2.1
          have dz := hb3.cells.2.2.2.2 2
          have hset := hb3.setV (.slice A3 (rows.length + 1) k3)
          have d2' := hset.cells.2.2.1
          have hCb : ChgS (fun i => i = b) w3 (w3.setCell ⟨b, 2, none⟩ (.slice A3 (rows.length + 1) k3)) := (ChgS.refl (fun i => i = b) w3).set (.inl rfl) _ _
          have hlow : ∀ g, (Value.slice A3 (rows.length + 1) k3).ownBlock = some g → M ≤ g := fun g hg => (hown.block hg).1
          have hpost : RAddPost S bm b M w0 at_ rows (.slice A rows.length c) m n w (.returned (.int .i64 (rows.length : Int))) (w3.setCell ⟨b, 2, none⟩ (.slice A3 (rows.length + 1) k3)) := by
            refine ⟨rfl, _, ⟨?_, hset, hCb.map hm3 (fun e => ok.ne e.symm), hCb.ownN hown (fun g hg e => by have := hlow g hg; have := ok.hb; omega) (fun r hr g hg e => by have := ((hown.args r hr).block hg).1; have := ok.hb; omega), ?_⟩, ?_, ?_⟩
            · refine (hC.extOf H.out.ext (fun g hg => by have := H.out.low hg; have := ok.hb; omega)).setNew (show w0.heap.size ≤ b from ok.hb.1) _
            · have := hC.size; have := hCb.size; have := H.out.size; omega
            · exact (hC.mono fun _ _ h => .inr (.inr h)).set (.inl (.inl rfl)) _ _
            · refine hat.imp id fun h g hg => ?_
              rw [h] at hg
              have := Option.some.inj hg
              simp at this
              omega
          have HP := Lib.hid hpost
          clear hpost hCb hlow hset hm3 hb3 hC hown hgr hat ok
          refine hK _ _ ?_
          clear hK K
          refine wpAny_take (i := 9) (v := ?_) rfl (by kernel_rfl) (by kernel_rfl) (by kernel_rfl) (fun _ _ _ h => h) (Or.inl ⟨by rfl, ?_⟩) ?_
          rotate_left
          · (intro w; go_simp) <;> with_reducible rfl
          refine wpAny_take (i := 10) (v := ?_) rfl (by kernel_rfl) (by kernel_rfl) (by kernel_rfl) (fun _ _ _ h => h) (Or.inl ⟨by rfl, ?_⟩) ?_
          rotate_left
          · (intro w; go_simp) <;> with_reducible rfl
          refine wpAny_take (i := 11) (v := ?_) rfl (by kernel_rfl) (by kernel_rfl) (by kernel_rfl) (fun _ _ _ h => h) (Or.inl ⟨by rfl, ?_⟩) ?_
          rotate_left
          · (intro w; go_simp) <;> with_reducible rfl
          refine wpAny_ready (rs := [12]) (by kernel_rfl) (by simp) ?_
          refine AllReady.cons rfl (fun K hK => ?_) ?_
          · go_simp
            refine hK _ _ ?_
            clear hK K
            refine wpAny_done (by kernel_rfl) ?_ _
            go_wp2
            go_ret
            exact HP.out
          · exact AllReady.nil
        · exact AllReady.nil
      · exact AllReady.nil
    · exact AllReady.nil
  · refine AllReady.cons rfl (fun K hK => ?_) ?_
    · go_simp
      refine hK _ _ ?_
      clear hK K
      refine wpAny_ready (rs := [5, 7]) (by kernel_rfl) (by simp) ?_
      refine AllReady.cons rfl (fun K hK => ?_) ?_
      · go_simp
        refine hK _ _ ?_
        clear hK K
        refine wpAny_ready (rs := [7]) (by kernel_rfl) (by simp) ?_
        refine AllReady.cons rfl (fun K hK => ?_) ?_
        · go_simp
          refine hK _ _ ?_
          clear hK K
          refine wpAny_ready (rs := [8]) (by kernel_rfl) (by simp) ?_
          refine AllReady.cons rfl (fun K hK => ?_) ?_
          · refine step_app22 rfl _ _ rfl M (.slice A rows.length c) rows rfl (H.out.own.ext ((((Ext.rfl' _).alloc _).alloc _).drew)) (w.heap.size + 1) 1 (n, .slice none 0 0) rfl (by simp) (by simp) (by simp) (by simp) (by rw [HN.out]; exact OwnI.nil _ _) (fun _ => rfl) hl (by have := H.out.size; simp; omega) ?_
            intro v' w3 hown hgr hat
            have ok := HOK.out
            have hC : ChgS (fun g => (Value.slice A rows.length c).ownBlock = some g) w w3 := (((((ChgS.refl (fun g => (Value.slice A rows.length c).ownBlock = some g) w).alloc _).alloc _).drew).grown hgr fun i hi => .inl hi)
            have hb3 : RdB S bm w3 b at_ (.slice A rows.length c) := H.out.blk.chg hC (fun h => by have := H.out.low h; have := ok.hb; omega)
            have hm3 := hC.map H.out.map (fun h => by have := H.out.low h; have := ok.hm; omega)
            obtain ⟨A3, k3, rfl, hk3⟩ : ∃ A3 k3, v' = .slice A3 (rows.length + 1) k3 ∧ rows.length + 1 ≤ k3 := by simpa using hown.shape
            have d2 := hb3.cells.2.2.1
            have dz := hb3.cells.2.2.2.2 2
            have hset := hb3.setV (.slice A3 (rows.length + 1) k3)
            have d2' := hset.cells.2.2.1
            have hCb : ChgS (fun i => i = b) w3 (w3.setCell ⟨b, 2, none⟩ (.slice A3 (rows.length + 1) k3)) := (ChgS.refl (fun i => i = b) w3).set (.inl rfl) _ _
            have hlow : ∀ g, (Value.slice A3 (rows.length + 1) k3).ownBlock = some g → M ≤ g := fun g hg => (hown.block hg).1
            have hpost : RAddPost S bm b M w0 at_ rows (.slice A rows.length c) m n w (.returned (.int .i64 (rows.length : Int))) (w3.setCell ⟨b, 2, none⟩ (.slice A3 (rows.length + 1) k3)) := by
              refine ⟨rfl, _, ⟨?_, hset, hCb.map hm3 (fun e => ok.ne e.symm), hCb.ownN hown (fun g hg e => by have := hlow g hg; have := ok.hb; omega) (fun r hr g hg e => by have := ((hown.args r hr).block hg).1; have := ok.hb; omega), ?_⟩, ?_, ?_⟩
              · refine (hC.extOf H.out.ext (fun g hg => by have := H.out.low hg; have := ok.hb; omega)).setNew (show w0.heap.size ≤ b from ok.hb.1) _
              · have := hC.size; have := hCb.size; have := H.out.size; omega
              · exact (hC.mono fun _ _ h => .inr (.inr h)).set (.inl (.inl rfl)) _ _
              · refine hat.imp id fun h g hg => ?_
                rw [h] at hg
                have := Option.some.inj hg
                simp at this
                omega
            have HP := Lib.hid hpost
            clear hpost hCb hlow hset hm3 hb3 hC hown hgr hat ok
            refine hK _ _ ?_
            clear hK K
            refine wpAny_take (i := 9) (v := ?_) rfl (by kernel_rfl) (by kernel_rfl) (by kernel_rfl) (fun _ _ _ h => h) (Or.inl ⟨by rfl, ?_⟩) ?_
            rotate_left
            · (intro w; go_simp) <;> with_reducible rfl
            refine wpAny_take (i := 10) (v := ?_) rfl (by kernel_rfl) (by kernel_rfl) (by kernel_rfl) (fun _ _ _ h => h) (Or.inl ⟨by rfl, ?_⟩) ?_
            rotate_left
            · (intro w; go_simp) <;> with_reducible rfl
            refine wpAny_take (i := 11) (v := ?_) rfl (by kernel_rfl) (by kernel_rfl) (by kernel_rfl) (fun _ _ _ h => h) (Or.inl ⟨by rfl, ?_⟩) ?_
            rotate_left
            · (intro w; go_simp) <;> with_reducible rfl
            refine wpAny_ready (rs := [12]) (by kernel_rfl) (by simp) ?_
            refine AllReady.cons rfl (fun K hK => ?_) ?_
            · go_simp
              refine hK _ _ ?_
              clear hK K
              refine wpAny_done (by kernel_rfl) ?_ _
              go_wp2
              go_ret
              exact HP.out
            · exact AllReady.nil
          · exact AllReady.nil
        · exact AllReady.nil
      · refine AllReady.cons rfl (fun K hK => ?_) ?_
        · go_simp
          refine hK _ _ ?_
          clear hK K
          refine wpAny_ready (rs := [5]) (by kernel_rfl) (by simp) ?_
          refine AllReady.cons rfl (fun K hK => ?_) ?_
          · go_simp
            refine hK _ _ ?_
            clear hK K
            refine wpAny_ready (rs := [8]) (by kernel_rfl) (by simp) ?_
            refine AllReady.cons rfl (fun K hK => ?_) ?_
            · refine step_app22 rfl _ _ rfl M (.slice A rows.length c) rows rfl (H.out.own.ext ((((Ext.rfl' _).alloc _).alloc _).drew)) (w.heap.size + 1) 1 (n, .slice none 0 0) rfl (by simp) (by simp) (by simp) (by simp) (by rw [HN.out]; exact OwnI.nil _ _) (fun _ => rfl) hl (by have := H.out.size; simp; omega) ?_
              intro v' w3 hown hgr hat
              have ok := HOK.out
              have hC : ChgS (fun g => (Value.slice A rows.length c).ownBlock = some g) w w3 := (((((ChgS.refl (fun g => (Value.slice A rows.length c).ownBlock = some g) w).alloc _).alloc _).drew).grown hgr fun i hi => .inl hi)
              have hb3 : RdB S bm w3 b at_ (.slice A rows.length c) := H.out.blk.chg hC (fun h => by have := H.out.low h; have := ok.hb; omega)
              have hm3 := hC.map H.out.map (fun h => by have := H.out.low h; have := ok.hm; omega)
              obtain ⟨A3, k3, rfl, hk3⟩ : ∃ A3 k3, v' = .slice A3 (rows.length + 1) k3 ∧ rows.length + 1 ≤ k3 := by simpa using hown.shape
              have d2 := hb3.cells.2.2.1
              have dz := hb3.cells.2.2.2.2 2
              have hset := hb3.setV (.slice A3 (rows.length + 1) k3)
              have d2' := hset.cells.2.2.1
              have hCb : ChgS (fun i => i = b) w3 (w3.setCell ⟨b, 2, none⟩ (.slice A3 (rows.length + 1) k3)) := (ChgS.refl (fun i => i = b) w3).set (.inl rfl) _ _
              have hlow : ∀ g, (Value.slice A3 (rows.length + 1) k3).ownBlock = some g → M ≤ g := fun g hg => (hown.block hg).1
              have hpost : RAddPost S bm b M w0 at_ rows (.slice A rows.length c) m n w (.returned (.int .i64 (rows.length : Int))) (w3.setCell ⟨b, 2, none⟩ (.slice A3 (rows.length + 1) k3)) := by
                refine ⟨rfl, _, ⟨?_, hset, hCb.map hm3 (fun e => ok.ne e.symm), hCb.ownN hown (fun g hg e => by have := hlow g hg; have := ok.hb; omega) (fun r hr g hg e => by have := ((hown.args r hr).block hg).1; have := ok.hb; omega), ?_⟩, ?_, ?_⟩
                · refine (hC.extOf H.out.ext (fun g hg => by have := H.out.low hg; have := ok.hb; omega)).setNew (show w0.heap.size ≤ b from ok.hb.1) _
                · have := hC.size; have := hCb.size; have := H.out.size; omega
                · exact (hC.mono fun _ _ h => .inr (.inr h)).set (.inl (.inl rfl)) _ _
                · refine hat.imp id fun h g hg => ?_
                  rw [h] at hg
                  have := Option.some.inj hg
                  simp at this
                  omega
              have HP := Lib.hid hpost
              clear hpost hCb hlow hset hm3 hb3 hC hown hgr hat ok
              refine hK _ _ ?_
              clear hK K
              refine wpAny_take (i := 9) (v := ?_) rfl (by kernel_rfl) (by kernel_rfl) (by kernel_rfl) (fun _ _ _ h => h) (Or.inl ⟨by rfl, ?_⟩) ?_
              rotate_left
              · (intro w; go_simp) <;> with_reducible rfl
              refine wpAny_take (i := 10) (v := ?_) rfl (by kernel_rfl) (by kernel_rfl) (by kernel_rfl) (fun _ _ _ h => h) (Or.inl ⟨by rfl, ?_⟩) ?_
              rotate_left
              · (intro w; go_simp) <;> with_reducible rfl
              refine wpAny_take (i := 11) (v := ?_) rfl (by kernel_rfl) (by kernel_rfl) (by kernel_rfl) (fun _ _ _ h => h) (Or.inl ⟨by rfl, ?_⟩) ?_
              rotate_left
              · (intro w; go_simp) <;> with_reducible rfl
              refine wpAny_ready (rs := [12]) (by kernel_rfl) (by simp) ?_
              refine AllReady.cons rfl (fun K hK => ?_) ?_
              · go_simp
                refine hK _ _ ?_
                clear hK K
                refine wpAny_done (by kernel_rfl) ?_ _
                go_wp2
                go_ret
                exact HP.out
              · exact AllReady.nil
            · exact AllReady.nil
          · exact AllReady.nil
        · exact AllReady.nil
    · exact AllReady.nil
end Go.Proofs.YtnleljpebnnhfaaGreatDoor

set_option linter.unusedSimpArgs false
set_option linter.unusedVariables false
namespace Go.Proofs.YtnleljpebnnhfaaGreatDoor
open Go.RowKit
theorem RdS.keep {S : List UInt8} {bm b M : Nat} {w0 w w' : World} {at_ : Nat} {rows : List (Nd × Value)} {v : Value} {m : List (Int × Int)} (h : RdS S bm b M w0 w at_ rows v m) {T : Nat → Prop} (k : ChgS T w w') (hb : ¬ T b) (hm : ¬ T bm)
    (hv : ∀ g, v.ownBlock = some g → ¬ T g) (hr : ∀ r ∈ rows, ∀ g, r.2.ownBlock = some g → ¬ T g) (hT : ∀ g, T g → w0.heap.size ≤ g) : RdS S bm b M w0 w' at_ rows v m :=
  ⟨k.extOf h.ext hT, h.blk.chg k hb, k.map h.map hm, k.ownN h.own hv hr, Nat.le_trans h.size k.size⟩
/-- What the reading of a node leaves. -/
def RNodePost (S : List UInt8) (bm b M : Nat) (w0 : World) (f at_ : Nat) (rows : List (Nd × Value)) (v : Value) (m : List (Int × Int)) (w : World) (e : Ending) (w' : World) : Prop :=
  ChgS (RMay bm b v) w w' ∧
  ((rdT f (look m) (S.drop at_) (rows.map (·.1)) = none ∧ e = wrongP) ∨
   (∃ (k : Int) (s1 : List UInt8) (G1 : List Nd) (at' : Nat) (rows' : List (Nd × Value)) (v' : Value) (m' : List (Int × Int)), rdT f (look m) (S.drop at_) (rows.map (·.1)) = some (k, s1, G1) ∧ e = .returned (.int .i64 k) ∧ at' ≤ S.length ∧ s1 = S.drop at' ∧
      RdS S bm b M w0 w' at' rows' v' m' ∧ rows'.map (·.1) = G1 ∧ (∀ x, look m' x = look m x) ∧ rows'.take rows.length = rows ∧ (v'.ownBlock = v.ownBlock ∨ ∀ g, v'.ownBlock = some g → w.heap.size ≤ g) ∧ (∀ r ∈ rows'.drop rows.length, ∀ g, r.2.ownBlock = some g → w.heap.size ≤ g)))
/-- The contract of node, as an assumption. -/
def RNodeC (S : List UInt8) (bm b M : Nat) (w0 : World) (f : Nat) : Prop :=
  ∀ (w : World) (at_ : Nat) (rows : List (Nd × Value)) (v : Value) (m : List (Int × Int)), RdS S bm b M w0 w at_ rows v m → at_ ≤ S.length → S.length - at_ < f → rows.length + (S.length - at_) ≤ 4001 →
    Calls Tryz.prog 59 #[.pointer (some ⟨b, 0, none⟩)] w (RNodePost S bm b M w0 f at_ rows v m w)
/-- What the reading of arguments leaves. -/
def RArgsPost (S : List UInt8) (bm b M : Nat) (w0 : World) (f sep at_ k : Nat) (rows : List (Nd × Value)) (v : Value) (m : List (Int × Int)) (w : World) (e : Ending) (w' : World) : Prop :=
  ChgS (RMay bm b v) w w' ∧
  ((argsT (rdT f (look m)) sep (S.length - at_ + 2) (S.drop at_) (rows.map (·.1)) [] = none ∧ e = wrongP) ∨
   (∃ (args : List Int) (s1 : List UInt8) (G1 : List Nd) (at' : Nat) (rows' : List (Nd × Value)) (v' va : Value) (m' : List (Int × Int)) (n : Nd), argsT (rdT f (look m)) sep (S.length - at_ + 2) (S.drop at_) (rows.map (·.1)) [] = some (args, s1, G1) ∧ e = .returned (.tuple #[]) ∧ at' ≤ S.length ∧ s1 = S.drop at' ∧
      RdS S bm b M w0 w' at' rows' v' m' ∧ (rows.map (·.1))[k]? = some n ∧ rows'.map (·.1) = G1.set k { n with args := args } ∧ (∀ x, look m' x = look m x) ∧ rows'.take rows.length = rows.set k ({ n with args := args }, va) ∧
      (v'.ownBlock = v.ownBlock ∨ ∀ g, v'.ownBlock = some g → w.heap.size ≤ g) ∧ (∀ r ∈ rows'.drop rows.length, ∀ g, r.2.ownBlock = some g → w.heap.size ≤ g) ∧ (∀ g, va.ownBlock = some g → w.heap.size ≤ g)))
theorem RMay.mono {bm b : Nat} {v v' : Value} {n i : Nat} (h : v'.ownBlock = v.ownBlock ∨ ∀ g, v'.ownBlock = some g → n ≤ g) (hi : i < n) (hm : RMay bm b v' i) : RMay bm b v i := by
  rcases hm with e | e | e
  · exact .inl e
  · exact .inr (.inl e)
  · rcases h with h | h
    · exact .inr (.inr (by rw [← h]; exact e))
    · have := h i e; omega
/-- What holds while arguments are read. -/
structure ARun (S : List UInt8) (bm b M : Nat) (w0 : World) (f sep at0 : Nat) (rows : List (Nd × Value)) (v : Value) (m : List (Int × Int)) (w : World) (gk : Nat) (va : Value) (acc : List Int) (at_ : Nat) (rows2 : List (Nd × Value)) (v2 : Value) (m2 : List (Int × Int)) (wr : World) : Prop where
  st : RdS S bm b M w0 wr at_ rows2 v2 m2
  le : at_ ≤ S.length
  gk : S.length - at_ ≤ gk
  room : rows2.length + (S.length - at_) ≤ 4001
  lt : S.length - at_ < f
  alen : acc.length + (S.length - at_) ≤ 4001
  eq : ∃ g, argsT (rdT f (look m)) sep (S.length - at0 + 2) (S.drop at0) (rows.map (·.1)) [] = argsT (rdT f (look m)) sep (g + 1) (S.drop at_) (rows2.map (·.1)) acc ∧ S.length - at_ ≤ g
  lk : ∀ x, look m2 x = look m x
  pre : rows2.take rows.length = rows
  chg : ChgS (RMay bm b v) w wr
  blk : v2.ownBlock = v.ownBlock ∨ ∀ g, v2.ownBlock = some g → w.heap.size ≤ g
  own : OwnI wr M va acc
  fresh : ∀ g, va.ownBlock = some g → w.heap.size ≤ g
  sep_ : ∀ r ∈ rows2, ∀ g, va.ownBlock = some g → r.2.ownBlock ≠ some g
  new : ∀ r ∈ rows2.drop rows.length, ∀ g, r.2.ownBlock = some g → w.heap.size ≤ g
  nilv : acc = [] → va = .slice none 0 0
set_option maxRecDepth 100000 in
set_option maxHeartbeats 2000000 in
theorem rargs_any (S : List UInt8) (hS : S.length ≤ 4000) (bm b M : Nat) (w0 : World) (ok : RdOk bm b M w0) (f : Nat) (IH : RNodeC S bm b M w0 f) (sep : Nat) (hsep : sep = 32 ∨ sep = 124)
    (at_ : Nat) (rows : List (Nd × Value)) (v : Value) (m : List (Int × Int)) (w : World) (h : RdS S bm b M w0 w at_ rows v m) (ha : at_ ≤ S.length) (hf : S.length - at_ < f) (hroom : rows.length + (S.length - at_) ≤ 4001) (k : Nat) (hk : k < rows.length) :
    Calls Tryz.prog 112 #[.pointer (some ⟨b, 0, none⟩), .int .i64 k, .int .u8 sep] w (RArgsPost S bm b M w0 f sep at_ k rows v m w) := by
  have HIH := Lib.hid IH
  have HOK := Lib.hid ok
  have H := Lib.hid h
  have HS := Lib.hid hS
  have HL := Lib.hid h.size
  clear IH ok h
  go_enter Tryz.func112, Tryz.ntmps112
  go_wp2
  go_loopg [6] (S.length) (fun gk v6 wr => ∃ (va : Value) (acc : List Int) (at2 : Nat) (rows2 : List (Nd × Value)) (v2 : Value) (m2 : List (Int × Int)), v6 = va ∧ ARun S bm b M w0 f sep at_ rows v m w gk va acc at2 rows2 v2 m2 wr)
  case atStart =>
    exact ⟨_, [], at_, rows, v, m, rfl, H.out, ha, by omega, hroom, hf, by simp; omega, ⟨S.length - at_ + 1, rfl, by omega⟩, fun _ => rfl, List.take_length, ChgS.refl _ _, .inl rfl, OwnI.nil _ _, fun g hg => by simp [Value.ownBlock] at hg, fun r hr g hg => by simp [Value.ownBlock] at hg, fun r hr => by simp at hr, fun _ => rfl⟩
  case round =>
    obtain ⟨va, acc, at2, rows2, v2, m2, h6, R⟩ := hrel
    have h6' := h6.symm
    subst h6'
    clear h6
    obtain ⟨Aa, ka, rfl, hka⟩ := R.own.shape
    have HR := Lib.hid R
    clear R
    go_wp2_with fail
    refine (HIH.out wr at2 rows2 v2 m2 HR.out.st HR.out.le HR.out.lt HR.out.room).mono ?_
    rintro e w5 ⟨ch5, ⟨hno, rfl⟩ | ⟨q, s1, G1, at3, rows3, v3, m3, hrd, rfl, hat3, hs1, st3, hG3, hlk3, hpre3, hblk3, hnew3⟩⟩
    · refine ⟨rfl, HR.out.chg.trans ch5 fun i hi hm => hm.mono HR.out.blk hi, .inl ⟨?_, rfl⟩⟩
      obtain ⟨g, hg, _⟩ := HR.out.eq
      have hlk : look m2 = look m := funext HR.out.lk
      rw [hlk] at hno
      rw [hg]
      unfold argsT
      rw [hno]
    · have hlk : look m2 = look m := funext HR.out.lk
      rw [hlk] at hrd
      obtain ⟨l1, l2⟩ := rdT_le _ _ _ _ _ _ _ hrd
      rw [hs1] at l1 l2
      simp only [List.length_drop, List.length_map] at l1 l2
      have hG3l : G1.length = rows3.length := by rw [← hG3]; simp
      rw [hG3l] at l2
      have hle2 := HR.out.le
      have hroom2 := HR.out.room
      have halen := HR.out.alen
      have hvaM : ∀ g, (Value.slice Aa acc.length ka).ownBlock = some g → M ≤ g := fun g hg => (HR.out.own.block hg).1
      have hva : ∀ g, (Value.slice Aa acc.length ka).ownBlock = some g → ¬ RMay bm b v2 g := by
        rintro g hg (e | e | e)
        · have := hvaM g hg; have := HOK.out.hb; omega
        · have := hvaM g hg; have := HOK.out.hm; omega
        · exact HR.out.st.own.apart HR.out.own hg e
      have own5 := ch5.ownI HR.out.own hva
      have C5 := Lib.hid (HR.out.chg.trans ch5 fun i hi hm => hm.mono HR.out.blk hi)
      have HSZ := Lib.hid ch5.size
      have HRD := Lib.hid hrd
      have ST3 := Lib.hid st3
      have HLK3 := Lib.hid hlk3
      have HPRE3 := Lib.hid hpre3
      have HBLK3 := Lib.hid hblk3
      have HNEW3 := Lib.hid hnew3
      have HG3 := Lib.hid hG3
      have HS1 := Lib.hid hs1
      have OWN5 := Lib.hid own5
      have HVM := Lib.hid hvaM
      clear hlk hrd st3 hlk3 hpre3 hblk3 hnew3 hG3 hs1 own5 hvaM hva ch5 hG3l
      go_wp2_with (at_builtin; refine wpList_app44 rfl _ _ rfl M (.slice Aa acc.length ka) acc rfl (OWN5.out.ext ((Ext.rfl' _).alloc _)) ⟨w5.heap.size, 0, none⟩ 1 q rfl (by simp) (by omega) (by have := ST3.out.size; simp; omega) ?_)
      intro va' w6 own6 gr6 at6
      have ok := HOK.out
      have CR : ChgS (fun g => (Value.slice Aa acc.length ka).ownBlock = some g) w5 w6 := ((ChgS.refl (fun g => (Value.slice Aa acc.length ka).ownBlock = some g) w5).alloc _).grown gr6 fun i hi => .inl hi
      obtain ⟨more3, he3⟩ := take_pre HPRE3.out
      have hsep : ∀ r ∈ rows3, ∀ g, (Value.slice Aa acc.length ka).ownBlock = some g → r.2.ownBlock ≠ some g := by
        intro r hr g hg e
        rw [he3] at hr
        rcases List.mem_append.1 hr with hr | hr
        · exact HR.out.sep_ r hr g hg e
        · have h1 := HNEW3.out r (by rw [he3]; simpa using hr) g e
          have h2 := (HR.out.own.block hg).2.1
          omega
      have st6 : RdS S bm b M w0 w6 at3 rows3 v3 m3 := ST3.out.keep CR (fun e => by have := HVM.out _ e; have := ok.hb; omega) (fun e => by have := HVM.out _ e; have := ok.hm; omega)
        (fun g hg e => ST3.out.own.apart OWN5.out e hg) (fun r hr g hg e => hsep r hr g e hg) (fun g hg => by have := HVM.out g hg; have := ok.hb; omega)
      have hfresh : ∀ g, va'.ownBlock = some g → w.heap.size ≤ g := by
        intro g hg
        rcases at6 with h | h
        · exact HR.out.fresh g (by rw [← h]; exact hg)
        · rw [h] at hg
          have := Option.some.inj hg
          have := C5.out.size
          skip
          omega
      have C6 : ChgS (RMay bm b v) w w6 := (C5.out.alloc _).grown gr6 fun i hi => .inr (HR.out.fresh i hi)
      have hblk6 : v3.ownBlock = v.ownBlock ∨ ∀ g, v3.ownBlock = some g → w.heap.size ≤ g := by
        rcases HBLK3.out with h | h
        · rcases HR.out.blk with h' | h'
          · exact .inl (h.trans h')
          · exact .inr fun g hg => h' g (by rw [← h]; exact hg)
        · exact .inr fun g hg => by have := h g hg; have := HR.out.chg.size; omega
      have hlen2 : rows.length ≤ rows2.length := by
        have := congrArg List.length HR.out.pre
        simp at this; omega
      have hpre6 : rows3.take rows.length = rows := by
        rw [he3, List.take_append_of_le_length hlen2]; exact HR.out.pre
      have hsep6 : ∀ r ∈ rows3, ∀ g, va'.ownBlock = some g → r.2.ownBlock ≠ some g := by
        intro r hr g hg e
        rcases at6 with h | h
        · exact hsep r hr g (by rw [← h]; exact hg) e
        · rw [h] at hg
          have h1 := Option.some.inj hg
          have h2 := ((ST3.out.own.args r hr).block e).2.1
          skip
          omega
      have hnew6 : ∀ r ∈ rows3.drop rows.length, ∀ g, r.2.ownBlock = some g → w.heap.size ≤ g := by
        intro r hr g hg
        rw [he3, List.drop_append_of_le_length hlen2] at hr
        rcases List.mem_append.1 hr with hr | hr
        · exact HR.out.new r hr g hg
        · have h2 := HNEW3.out r (by rw [he3]; simpa using hr) g hg
          have := HR.out.chg.size
          omega
      have hlk6 : ∀ x, look m3 x = look m x := fun x => (HLK3.out x).trans (HR.out.lk x)
      have hap : acc ++ [q] ≠ [] := by simp
      have ST6 := Lib.hid st6
      have OWN6 := Lib.hid own6
      have HFR := Lib.hid hfresh
      have HC6 := Lib.hid C6
      have HB6 := Lib.hid hblk6
      have HP6 := Lib.hid hpre6
      have HS6 := Lib.hid hsep6
      have HN6 := Lib.hid hnew6
      have HL6 := Lib.hid hlk6
      have HAP := Lib.hid hap
      obtain ⟨A6, k6, rfl, hk6⟩ : ∃ A6 k6, va' = .slice A6 (acc.length + 1) k6 ∧ acc.length + 1 ≤ k6 := by simpa using own6.shape
      clear st6 own6 hfresh C6 hblk6 hpre6 hsep6 hnew6 hlk6 hap gr6 at6 CR hsep ok he3
      go_wp2_with fail
      refine (peek_any S HS.out bm b at3 v3 w6 ST6.out.blk hat3).mono ?_
      rintro e w7 ⟨rfl, n7, rfl⟩
      obtain ⟨gg, hgg, hgg2⟩ := HR.out.eq
      by_cases hsp : hd (S.drop at3) = sep
      · have hne : ((hd (S.drop at3) : Int) != (sep : Int)) = false := by simp [hsp]
        have hlt3 := hd_pos_lt (S := S) (k := at3) (by omega)
        have c1 := ST6.out.blk.cells.2.1
        have cz := ST6.out.blk.cells.2.2.2.2 1
        have HGG : Hid (argsT (rdT f (look m)) sep (S.length - at_ + 2) (S.drop at_) (rows.map (·.1)) [] = argsT (rdT f (look m)) sep gg (S.drop (at3 + 1)) (rows3.map (·.1)) (acc ++ [q])) := Lib.hid (by
          rw [hgg, argsT_more HRD.out (by rw [HS1.out]; exact hsp), HS1.out, List.tail_drop, HG3.out])
        clear hsp hgg
        go_wp2
        go_roundg (S.length - (at3 + 1))
        case measure => have := HR.out.gk; omega
        case rel =>
          have hb7 := (ST6.out.blk.ext (Ext.of_drewN w6 n7)).setAtI (at3 + 1) ((at3 : Int) + 1) (by simp)
          have C7 : ChgS (fun i => i = b) w6 ((w6.drewN n7).setCell ⟨b, 1, none⟩ (.int .i64 ((at3 : Int) + 1))) := (ChgS.of_ext (S := fun i => i = b) (Ext.of_drewN w6 n7)).set (.inl rfl) _ _
          refine ⟨_, acc ++ [q], at3 + 1, rows3, v3, m3, rfl, ST6.out.chgB HOK.out C7 hb7, by omega, by omega, by omega, by have := HR.out.lt; omega, by simp; omega, ?_, HL6.out, HP6.out, ?_, HB6.out, C7.ownI OWN6.out ?_, HFR.out, HS6.out, HN6.out, fun h => absurd h HAP.out⟩
          · cases gg with
            | zero => omega
            | succ gg => exact ⟨gg, HGG.out, by omega⟩
          · exact (HC6.out.drewN _).set (.inl (.inl rfl)) _ _
          · rintro g hg rfl
            have := (OWN6.out.block hg).1
            have := HOK.out.hb
            omega
      · have hne : ((hd (S.drop at3) : Int) != (sep : Int)) = true := by simp; omega
        have HSP := Lib.hid hsp
        have HGG := Lib.hid hgg
        clear hsp hgg
        go_wp2_with fail
        refine (eat_any S HS.out bm b at3 v3 _ (ST6.out.blk.ext (Ext.of_drewN w6 n7)) hat3 41 (by omega)).mono ?_
        rintro e w8 ⟨ch8, ⟨h41, rfl, hb8, hat8⟩ | ⟨h41, rfl⟩⟩
        · have hlt8 := HOK.out
          have C68 : ChgS (fun i => i = b) w6 w8 := (ChgS.of_ext (S := fun i => i = b) (Ext.of_drewN w6 n7)).trans (T := fun i => i = b) ch8 fun _ _ h => h
          have st8 := ST6.out.chgB HOK.out C68 hb8
          have own8 : OwnI w8 M (.slice A6 (acc.length + 1) k6) (acc ++ [q]) := C68.ownI OWN6.out (by rintro g hg rfl; have := (OWN6.out.block hg).1; have := HOK.out.hb; omega)
          have hlen3 : rows.length ≤ rows3.length := by
            have := congrArg List.length HP6.out
            simp at this; omega
          have hk3 : k < rows3.length := by omega
          obtain ⟨g, cap, cur, rfl, hMg, hgh, hcap, _⟩ := st8.own.at (by omega)
          have hcells := (st8.own.cell (g := g) rfl k hk3).2.2.2
          have hset := st8.own.setArgs (g := g) rfl hk3 own8 (fun h => absurd h HAP.out)
          have c2 := st8.blk.cells.2.2.1
          have fz : w8.frozen? ⟨g, k * 4 + 3, none⟩ = false := by simp [World.frozen?, hgh]
          have C69 : ChgS (RMay bm b v) w w8 := HC6.out.trans (T := fun i => i = b) C68 fun _ _ h => .inl h
          have hgb : g ≠ b ∧ g ≠ bm := by have := HOK.out.hb; have := HOK.out.hm; omega
          have hn : (rows.map (·.1))[k]? = some rows3[k].1 := by
            have : rows[k]? = rows3[k]? := by rw [← HP6.out, List.getElem?_take, if_pos hk]
            rw [List.getElem?_map, this, List.getElem?_eq_getElem hk3]; rfl
          have C89 : ChgS (fun i => i = g) w8 (w8.setCell ⟨g, k * 4 + 3, none⟩ (.slice A6 (acc.length + 1) k6)) := (ChgS.refl (fun i => i = g) w8).set (.inl rfl) _ _
          have hpost : RArgsPost S bm b M w0 f sep at_ k rows v m w (.returned (.tuple #[])) (w8.setCell ⟨g, k * 4 + 3, none⟩ (.slice A6 (acc.length + 1) k6)) := by
            refine ⟨C69.set ?_ _ _, .inr ⟨acc ++ [q], S.drop (at3 + 1), rows3.map (·.1), at3 + 1, rows3.set k ({ rows3[k].1 with args := acc ++ [q] }, .slice A6 (acc.length + 1) k6), .slice (some ⟨g, 0, none⟩) rows3.length cap, .slice A6 (acc.length + 1) k6, m3, rows3[k].1, ?_, rfl, hat8, rfl, ⟨?_, ?_, ?_, ?_, ?_⟩, hn, ?_, HL6.out, ?_, HB6.out, ?_, HFR.out⟩⟩
            · rcases HB6.out with h | h
              · exact .inl (.inr (.inr (by rw [← h]; rfl)))
              · exact .inr (h g rfl)
            · rw [HGG.out]
              unfold argsT
              rw [HRD.out]
              simp only [HS1.out]
              rw [if_neg HSP.out, if_pos h41, List.tail_drop, HG3.out]
            · exact st8.ext.setNew (show w0.heap.size ≤ g by have := HOK.out.hb; omega) _
            · exact st8.blk.chg C89 (fun e => hgb.1 e.symm)
            · exact C89.map st8.map (fun e => hgb.2 e.symm)
            · exact hset
            · have := C89.size; have := st8.size; omega
            · rw [List.map_set]
            · rw [List.take_set, HP6.out]
            · intro r hr g' hg'
              rw [List.drop_set_of_lt hk] at hr
              exact HN6.out r hr g' hg'
          have HPOST := Lib.hid hpost
          clear hpost hset C89 C69 hn C68 st8 own8 hgh hb8 ch8 hlt8
          go_wp2
          go_end0
          exact HPOST.out
        · refine ⟨rfl, (HC6.out.drewN _).trans (T := fun i => i = b) ch8 fun _ _ h => .inl h, .inl ⟨?_, rfl⟩⟩
          rw [HGG.out]
          unfold argsT
          rw [HRD.out]
          simp only [HS1.out]
          rw [if_neg HSP.out, if_neg h41]
end Go.Proofs.YtnleljpebnnhfaaGreatDoor

/- The reader, second part. -/
import Derived.Test.YtnleljpebnnhfaaGreatDoorZl

set_option linter.unusedSimpArgs false
set_option linter.unusedVariables false
namespace Go.Proofs.YtnleljpebnnhfaaGreatDoor
open Go.RowKit
theorem cellsN_lab (rows : List (Nd × Value)) : ∀ (k : Nat) (hk : k < rows.length) (l : ByteArray),
    (rows.flatMap cellsN).set (k * 4 + 2) (.string l) = (rows.set k ({ rows[k].1 with label := l }, rows[k].2)).flatMap cellsN := by
  induction rows with
  | nil => intro k hk; simp at hk
  | cons r rows ih =>
    intro k hk l
    cases k with
    | zero => simp [cellsN]
    | succ k =>
      have : (k + 1) * 4 + 2 = (cellsN r).length + (k * 4 + 2) := by simp [cellsN]; omega
      rw [List.flatMap_cons, this, List.set_append_right _ _ (by omega), Nat.add_sub_cancel_left, ih k (by simpa using hk) l]
      simp
/-- A label is laid into a node of the row. -/
theorem OwnN.setLab {w : World} {base : Nat} {v : Value} {rows : List (Nd × Value)} (h : OwnN w base v rows) {g : Nat} (hg : v.ownBlock = some g) {k : Nat} (hk : k < rows.length) (l : ByteArray) :
    OwnN (w.setCell ⟨g, k * 4 + 2, none⟩ (.string l)) base v (rows.set k ({ rows[k].1 with label := l }, rows[k].2)) := by
  obtain ⟨g', cap, cur, rfl, hb, hh, hcap, hmax, hsz, htake⟩ := h.at (by omega)
  simp [Value.ownBlock] at hg
  subst hg
  have hch : ChgS (fun i => i = g') w (w.setCell ⟨g', k * 4 + 2, none⟩ (.string l)) := (ChgS.refl (fun i => i = g') w).set (.inl rfl) _ _
  have hne : ∀ {u : Value} {xs : List Int}, OwnI w base u xs → ∀ i, u.ownBlock = some i → ¬ i = g' := fun hu i hi e => by
    subst e
    exact h.apart hu hi rfl
  refine ⟨⟨by rw [cellsN_length], .inr ⟨g', cap, cur.setIfInBounds (k * 4 + 2) (.string l), by simp, hb, ?_, by simpa using hcap, hmax, by simpa using hsz, ?_⟩⟩, fun r hr => ?_, fun r hr => ?_⟩
  · have := hh
    simp [World.setCell, Array.getElem?_modify, hh]
  · rw [← cellsN_lab rows k hk l, ← htake]
    simp only [List.length_set, Array.toList_setIfInBounds]
    rw [List.take_set]
  · rcases List.mem_or_eq_of_mem_set hr with hr | rfl
    · exact hch.ownI (h.args r hr) (hne (h.args r hr))
    · have := h.args _ (List.getElem_mem hk)
      exact hch.ownI this (hne this)
  · rcases List.mem_or_eq_of_mem_set hr with hr | rfl
    · exact h.nils r hr
    · exact h.nils rows[k] (List.getElem_mem hk)
/-- The node of a tuple that is read, without arguments. -/
def tupN (L : List UInt8) : Nd := ⟨3, 0, bs (if L = [] then [124] else L), []⟩
theorem tupT_eq {f : Nat} {L S : List UInt8} {no : Int} {at_ : Nat} {rows : List (Nd × Value)} {m m2 : List (Int × Int)} (u : Value) (h40 : hd (S.drop at_) = 40) (hlt : at_ < S.length) (hop : (fun x => if 0 ≤ no ∧ x = no then some (rows.length : Int) else look m x) = look m2) :
    tupT (rdT f) L no (S.drop at_) (rows.map (·.1)) (look m) = (argsT (rdT f (look m2)) (if L = [] then 124 else 32) (S.length - (at_ + 1) + 2) (S.drop (at_ + 1)) ((rows ++ [(tupN L, u)]).map (·.1)) []).map fun p => ((rows.length : Int), p.2.1, p.2.2.set rows.length { tupN L with args := p.1 }) := by
  unfold tupT
  rw [if_pos h40, List.length_map, hop, List.tail_drop]
  have e1 : (S.drop at_).length + 1 = S.length - (at_ + 1) + 2 := by simp; omega
  rw [e1, List.map_append]
  simp only [List.map_cons, List.map_nil, tupN]
  cases argsT (rdT f (look m2)) (if L = [] then 124 else 32) (S.length - (at_ + 1) + 2) (S.drop (at_ + 1)) (rows.map (·.1) ++ [⟨3, 0, bs (if L = [] then [124] else L), []⟩]) [] with
  | none => rfl
  | some p => rfl
/-- What the reading of a tuple leaves. -/
def RTupPost (S : List UInt8) (bm b M : Nat) (w0 : World) (f at_ : Nat) (L : List UInt8) (no : Int) (rows : List (Nd × Value)) (v : Value) (m : List (Int × Int)) (w : World) (e : Ending) (w' : World) : Prop :=
  ChgS (RMay bm b v) w w' ∧
  ((tupT (rdT f) L no (S.drop at_) (rows.map (·.1)) (look m) = none ∧ e = wrongP) ∨
   (∃ (k : Int) (s1 : List UInt8) (G1 : List Nd) (at' : Nat) (rows' : List (Nd × Value)) (v' : Value) (m' : List (Int × Int)), tupT (rdT f) L no (S.drop at_) (rows.map (·.1)) (look m) = some (k, s1, G1) ∧ e = .returned (.int .i64 k) ∧ at' ≤ S.length ∧ s1 = S.drop at' ∧
      RdS S bm b M w0 w' at' rows' v' m' ∧ rows'.map (·.1) = G1 ∧ (∀ x, look m' x = look m x) ∧ rows'.take rows.length = rows ∧ (v'.ownBlock = v.ownBlock ∨ ∀ g, v'.ownBlock = some g → w.heap.size ≤ g) ∧ (∀ r ∈ rows'.drop rows.length, ∀ g, r.2.ownBlock = some g → w.heap.size ≤ g)))
set_option maxRecDepth 100000 in
set_option maxHeartbeats 2000000 in
theorem rtup_nes (S : List UInt8) (hS : S.length ≤ 4000) (bm b M : Nat) (w0 : World) (ok : RdOk bm b M w0) (f : Nat) (IH : RNodeC S bm b M w0 f)
    (at_ : Nat) (rows : List (Nd × Value)) (v : Value) (m : List (Int × Int)) (w : World) (h : RdS S bm b M w0 w at_ rows v m) (ha : at_ ≤ S.length) (hf : S.length - at_ ≤ f) (hroom : rows.length + (S.length - at_) ≤ 4001) (was : Int) (hl : look m (-1) = some was) :
    Calls Tryz.prog 93 #[.pointer (some ⟨b, 0, none⟩), .string (bs []), .int .i64 (-1)] w (RTupPost S bm b M w0 f at_ [] (-1) rows v m w) := by
  have HIH := Lib.hid IH
  have HOK := Lib.hid ok
  have H := Lib.hid h
  have HS := Lib.hid hS
  have HLK := Lib.hid hl
  have hLe : (bs []).toList.isEmpty = true := by rw [Go.Lib.toList_data, bs_list]; rfl
  have hfits : Fits (-1) := fits_of (by omega) (by omega)
  have HF := Lib.hid hfits
  clear IH ok h hS hl hfits
  go_enter Tryz.func93, Tryz.ntmps93
  go_wp2_with fail
  refine (radd_any S bm b M w0 HOK.out at_ rows v m ⟨3, 0, bs [], []⟩ rfl w H.out (by omega)).mono ?_
  rintro e w1 ⟨rfl, v1, st1, ch1, blk1⟩
  have hlk := st1.map.lookup kl3 und82 zero3 HF.out true
  rw [HLK.out] at hlk
  have c4 := st1.blk.cells.2.2.2.1
  have hrun : (Instr.lookup 82 (.map (some bm)) (.int .i64 (-1)) true).run Tryz.prog w1 = .ok (.tuple #[.int .i64 was, .bool true]) w1 := hlk
  have ST1 := Lib.hid st1
  have CH1 := Lib.hid ch1
  have BLK1 := Lib.hid blk1
  clear st1 ch1 blk1 hlk
  have ST2 := ST1
  have CH2 := CH1
  have hs2 : w1.heap.size ≤ w1.heap.size := Nat.le_refl _
  have hop : (fun x => if 0 ≤ (-1 : Int) ∧ x = (-1) then some (rows.length : Int) else look m x) = look m := by
    funext x
    rw [if_neg (fun h => by omega)]
  have HOP := Lib.hid hop
  clear hop
  go_wp2_with fail
  refine (eat_any S HS.out bm b at_ v1 w1 ST2.out.blk ha 40 (by omega)).mono ?_
  rintro e w3 ⟨ch3, ⟨h40, rfl, hb3, hat⟩ | ⟨h40, rfl⟩⟩
  · have st3 := ST2.out.chgB HOK.out ch3 hb3
    have C3 : ChgS (RMay bm b v) w w3 := CH2.out.trans (T := fun i => i = b) ch3 fun _ _ h => .inl h
    have hs3 := ch3.size
    have H40 := Lib.hid h40
    obtain ⟨g, cap, cur, rfl, hMg, hgh, hcap, _⟩ := st3.own.at (by simp)
    simp only [List.length_append, List.length_cons, List.length_nil, Nat.zero_add] at hcap st3 ST1 ST2 BLK1 hb3
    have hk1 : rows.length < (rows ++ [((⟨3, 0, bs [], []⟩ : Nd), Value.slice none 0 0)]).length := by simp
    have hcl := (st3.own.cell (g := g) rfl rows.length hk1).2.2.1
    have hset := st3.own.setLab (g := g) rfl hk1 ⟨#[124]⟩
    have hrw : (rows ++ [((⟨3, 0, bs [], []⟩ : Nd), Value.slice none 0 0)]).set rows.length ({ (rows ++ [((⟨3, 0, bs [], []⟩ : Nd), Value.slice none 0 0)])[rows.length].1 with label := ⟨#[124]⟩ }, (rows ++ [((⟨3, 0, bs [], []⟩ : Nd), Value.slice none 0 0)])[rows.length].2) = rows ++ [(tupN [], Value.slice none 0 0)] := by
      rw [List.set_append_right _ _ (Nat.le_refl _)]
      simp [tupN, bs]
    rw [hrw] at hset
    have c2 := st3.blk.cells.2.2.1
    have fz : w3.frozen? ⟨g, rows.length * 4 + 2, none⟩ = false := by simp [World.frozen?, hgh]
    have hgb : g ≠ b ∧ g ≠ bm := by have := HOK.out.hb; have := HOK.out.hm; omega
    have C34 : ChgS (fun i => i = g) w3 (w3.setCell ⟨g, rows.length * 4 + 2, none⟩ (.string ⟨#[124]⟩)) := (ChgS.refl (fun i => i = g) w3).set (.inl rfl) _ _
    have hst4 : RdS S bm b M w0 (w3.setCell ⟨g, rows.length * 4 + 2, none⟩ (.string ⟨#[124]⟩)) (at_ + 1) (rows ++ [(tupN [], Value.slice none 0 0)]) (.slice (some ⟨g, 0, none⟩) (rows.length + 1) cap) m :=
      ⟨st3.ext.setNew (show w0.heap.size ≤ g by have := HOK.out.hb; omega) _, st3.blk.chg C34 (fun e => hgb.1 e.symm), C34.map st3.map (fun e => hgb.2 e.symm), hset, by have := C34.size; have := st3.size; omega⟩
    have hC4 : ChgS (RMay bm b v) w (w3.setCell ⟨g, rows.length * 4 + 2, none⟩ (.string ⟨#[124]⟩)) := by
      refine C3.set ?_ _ _
      rcases BLK1.out with h | h
      · exact .inl (.inr (.inr (by rw [← h]; rfl)))
      · exact .inr (h g rfl)
    have ST4 := Lib.hid hst4
    have CH4 := Lib.hid hC4
    have HS4 : Hid (w.heap.size ≤ (w3.setCell ⟨g, rows.length * 4 + 2, none⟩ (.string ⟨#[124]⟩)).heap.size) := Lib.hid hC4.size
    clear hst4 hC4 C34 hset hrw st3 hb3 ch3 C3 hgh h40
    go_wp2_with fail
    refine (rargs_any S HS.out bm b M w0 HOK.out f HIH.out 124 (by omega) (at_ + 1) (rows ++ [(tupN [], Value.slice none 0 0)]) (.slice (some ⟨g, 0, none⟩) (rows.length + 1) cap) m _ ST4.out hat (by omega) (by simp; omega) rows.length (by simp)).mono ?_
    have hte := tupT_eq (f := f) (L := []) (rows := rows) (Value.slice none 0 0) H40.out (by omega) HOP.out
    have HTE := Lib.hid hte
    clear hte
    rintro e w5 ⟨ch5, ⟨hno, rfl⟩ | ⟨args, s1, G1, at', rows', v', va, m5, n, hargs, rfl, hat', hs1, st5, hn, hrows', hlk5, hpre, hblk, hnew, hfr⟩⟩
    · refine ⟨rfl, CH4.out.trans ch5 fun i hi hm => hm.mono BLK1.out hi, .inl ⟨?_, rfl⟩⟩
      rw [HTE.out, if_pos rfl, hno]
      rfl
    · have hnn : n = tupN [] := by
        simp at hn
        exact hn.symm
      subst hnn
      have c4 := st5.blk.cells.2.2.2.1
      have hG : tupT (rdT f) [] (-1) (S.drop at_) (rows.map (·.1)) (look m) = some ((rows.length : Int), s1, G1.set rows.length { tupN [] with args := args }) := by
        rw [HTE.out, if_pos rfl, hargs]
        rfl
      have hpre2 : rows'.take rows.length = rows := by
        have h1 := congrArg (List.take rows.length) hpre
        rw [List.take_take, List.set_append_right _ _ (Nat.le_refl _)] at h1
        simpa using h1
      have hnew2 : ∀ r ∈ rows'.drop rows.length, ∀ g, r.2.ownBlock = some g → w.heap.size ≤ g := by
        intro r hr g hg
        have h4 := HS4.out
        have hcut : rows'.drop rows.length = (rows'.take (rows.length + 1)).drop rows.length ++ rows'.drop (rows.length + 1) := by
          conv => lhs; rw [← List.take_append_drop (rows.length + 1) rows']
          rw [List.drop_append_of_le_length]
          have := congrArg List.length hpre
          simp at this
          simp; omega
        rw [hcut] at hr
        rcases List.mem_append.1 hr with hr | hr
        · have h1 : rows'.take (rows.length + 1) = rows ++ [({ tupN [] with args := args }, va)] := by
            have := hpre
            rw [List.set_append_right _ _ (Nat.le_refl _)] at this
            simpa using this
          rw [h1, List.drop_append_of_le_length (Nat.le_refl _)] at hr
          simp at hr
          rw [hr] at hg
          have := hfr g hg
          omega
        · have := hnew r (by simpa using hr) g hg
          omega
      have hblk2 : v'.ownBlock = v.ownBlock ∨ ∀ g, v'.ownBlock = some g → w.heap.size ≤ g := by
        rcases hblk with h | h
        · rcases BLK1.out with h' | h'
          · exact .inl (h.trans h')
          · exact .inr fun g hg => h' g (by rw [← h]; exact hg)
        · exact .inr fun g hg => by have := h g hg; have := HS4.out; omega
      have C5 : ChgS (RMay bm b v) w w5 := CH4.out.trans ch5 fun i hi hm => hm.mono BLK1.out hi
      have ST5 := Lib.hid st5
      have HC5 := Lib.hid C5
      have HG := Lib.hid hG
      have HP2 := Lib.hid hpre2
      have HN2 := Lib.hid hnew2
      have HB2 := Lib.hid hblk2
      have HR' := Lib.hid hrows'
      have HS1 := Lib.hid hs1
      have HLK5 := Lib.hid hlk5
      clear st5 C5 hG hpre2 hnew2 hblk2 hrows' hs1 hlk5 hargs hpre hblk hnew hfr ch5 hn
      go_wp2_with (at_mapUpdate; refine wpList_upd rfl _ _ _ 82 rfl kl3 und82 ST5.out.map rfl (-1) HF.out rfl was rfl ?_)
      intro w6 hM6 hch6
      have hfin : ∀ x, look (ins m5 (-1) was) x = look m x := by
        intro x
        rw [look_ins]
        by_cases hx : x = (-1)
        · rw [if_pos hx, hx, HLK.out]
        · rw [if_neg hx, HLK5.out x, ← congrFun HOP.out x, if_neg (fun h => hx h.2)]
      have st6 := ST5.out.chgM HOK.out ((ChgS.refl (fun i => i = bm) w5).chg hch6 (.inl rfl)) hM6
      have C6 : ChgS (RMay bm b v) w w6 := HC5.out.chg hch6 (.inl (.inr (.inl rfl)))
      have ST6 := Lib.hid st6
      have HC6 := Lib.hid C6
      have HFIN := Lib.hid hfin
      clear st6 C6 hfin hM6 hch6 c4
      go_wp2
      go_ret
      exact ⟨HC6.out, .inr ⟨_, s1, _, at', rows', v', (ins m5 (-1) was), HG.out, rfl, hat', HS1.out, ST6.out, HR'.out, HFIN.out, HP2.out, HB2.out, HN2.out⟩⟩
  · refine ⟨rfl, CH2.out.trans (T := fun i => i = b) ch3 fun _ _ h => .inl h, .inl ⟨?_, rfl⟩⟩
    unfold tupT
    rw [if_neg h40]
set_option maxRecDepth 100000 in
set_option maxHeartbeats 2000000 in
theorem rtup_neo (S : List UInt8) (hS : S.length ≤ 4000) (bm b M : Nat) (w0 : World) (ok : RdOk bm b M w0) (f : Nat) (IH : RNodeC S bm b M w0 f)
    (at_ : Nat) (rows : List (Nd × Value)) (v : Value) (m : List (Int × Int)) (w : World) (h : RdS S bm b M w0 w at_ rows v m) (ha : at_ ≤ S.length) (hf : S.length - at_ ≤ f) (hroom : rows.length + (S.length - at_) ≤ 4001) (hl : look m (-1) = none) :
    Calls Tryz.prog 93 #[.pointer (some ⟨b, 0, none⟩), .string (bs []), .int .i64 (-1)] w (RTupPost S bm b M w0 f at_ [] (-1) rows v m w) := by
  have HIH := Lib.hid IH
  have HOK := Lib.hid ok
  have H := Lib.hid h
  have HS := Lib.hid hS
  have HLK := Lib.hid hl
  have hLe : (bs []).toList.isEmpty = true := by rw [Go.Lib.toList_data, bs_list]; rfl
  have hfits : Fits (-1) := fits_of (by omega) (by omega)
  have HF := Lib.hid hfits
  clear IH ok h hS hl hfits
  go_enter Tryz.func93, Tryz.ntmps93
  go_wp2_with fail
  refine (radd_any S bm b M w0 HOK.out at_ rows v m ⟨3, 0, bs [], []⟩ rfl w H.out (by omega)).mono ?_
  rintro e w1 ⟨rfl, v1, st1, ch1, blk1⟩
  have hlk := st1.map.lookup kl3 und82 zero3 HF.out true
  rw [HLK.out] at hlk
  have c4 := st1.blk.cells.2.2.2.1
  have hrun : (Instr.lookup 82 (.map (some bm)) (.int .i64 (-1)) true).run Tryz.prog w1 = .ok (.tuple #[.int .i64 0, .bool false]) w1 := hlk
  have ST1 := Lib.hid st1
  have CH1 := Lib.hid ch1
  have BLK1 := Lib.hid blk1
  clear st1 ch1 blk1 hlk
  have ST2 := ST1
  have CH2 := CH1
  have hs2 : w1.heap.size ≤ w1.heap.size := Nat.le_refl _
  have hop : (fun x => if 0 ≤ (-1 : Int) ∧ x = (-1) then some (rows.length : Int) else look m x) = look m := by
    funext x
    rw [if_neg (fun h => by omega)]
  have HOP := Lib.hid hop
  clear hop
  go_wp2_with fail
  refine (eat_any S HS.out bm b at_ v1 w1 ST2.out.blk ha 40 (by omega)).mono ?_
  rintro e w3 ⟨ch3, ⟨h40, rfl, hb3, hat⟩ | ⟨h40, rfl⟩⟩
  · have st3 := ST2.out.chgB HOK.out ch3 hb3
    have C3 : ChgS (RMay bm b v) w w3 := CH2.out.trans (T := fun i => i = b) ch3 fun _ _ h => .inl h
    have hs3 := ch3.size
    have H40 := Lib.hid h40
    obtain ⟨g, cap, cur, rfl, hMg, hgh, hcap, _⟩ := st3.own.at (by simp)
    simp only [List.length_append, List.length_cons, List.length_nil, Nat.zero_add] at hcap st3 ST1 ST2 BLK1 hb3
    have hk1 : rows.length < (rows ++ [((⟨3, 0, bs [], []⟩ : Nd), Value.slice none 0 0)]).length := by simp
    have hcl := (st3.own.cell (g := g) rfl rows.length hk1).2.2.1
    have hset := st3.own.setLab (g := g) rfl hk1 ⟨#[124]⟩
    have hrw : (rows ++ [((⟨3, 0, bs [], []⟩ : Nd), Value.slice none 0 0)]).set rows.length ({ (rows ++ [((⟨3, 0, bs [], []⟩ : Nd), Value.slice none 0 0)])[rows.length].1 with label := ⟨#[124]⟩ }, (rows ++ [((⟨3, 0, bs [], []⟩ : Nd), Value.slice none 0 0)])[rows.length].2) = rows ++ [(tupN [], Value.slice none 0 0)] := by
      rw [List.set_append_right _ _ (Nat.le_refl _)]
      simp [tupN, bs]
    rw [hrw] at hset
    have c2 := st3.blk.cells.2.2.1
    have fz : w3.frozen? ⟨g, rows.length * 4 + 2, none⟩ = false := by simp [World.frozen?, hgh]
    have hgb : g ≠ b ∧ g ≠ bm := by have := HOK.out.hb; have := HOK.out.hm; omega
    have C34 : ChgS (fun i => i = g) w3 (w3.setCell ⟨g, rows.length * 4 + 2, none⟩ (.string ⟨#[124]⟩)) := (ChgS.refl (fun i => i = g) w3).set (.inl rfl) _ _
    have hst4 : RdS S bm b M w0 (w3.setCell ⟨g, rows.length * 4 + 2, none⟩ (.string ⟨#[124]⟩)) (at_ + 1) (rows ++ [(tupN [], Value.slice none 0 0)]) (.slice (some ⟨g, 0, none⟩) (rows.length + 1) cap) m :=
      ⟨st3.ext.setNew (show w0.heap.size ≤ g by have := HOK.out.hb; omega) _, st3.blk.chg C34 (fun e => hgb.1 e.symm), C34.map st3.map (fun e => hgb.2 e.symm), hset, by have := C34.size; have := st3.size; omega⟩
    have hC4 : ChgS (RMay bm b v) w (w3.setCell ⟨g, rows.length * 4 + 2, none⟩ (.string ⟨#[124]⟩)) := by
      refine C3.set ?_ _ _
      rcases BLK1.out with h | h
      · exact .inl (.inr (.inr (by rw [← h]; rfl)))
      · exact .inr (h g rfl)
    have ST4 := Lib.hid hst4
    have CH4 := Lib.hid hC4
    have HS4 : Hid (w.heap.size ≤ (w3.setCell ⟨g, rows.length * 4 + 2, none⟩ (.string ⟨#[124]⟩)).heap.size) := Lib.hid hC4.size
    clear hst4 hC4 C34 hset hrw st3 hb3 ch3 C3 hgh h40
    go_wp2_with fail
    refine (rargs_any S HS.out bm b M w0 HOK.out f HIH.out 124 (by omega) (at_ + 1) (rows ++ [(tupN [], Value.slice none 0 0)]) (.slice (some ⟨g, 0, none⟩) (rows.length + 1) cap) m _ ST4.out hat (by omega) (by simp; omega) rows.length (by simp)).mono ?_
    have hte := tupT_eq (f := f) (L := []) (rows := rows) (Value.slice none 0 0) H40.out (by omega) HOP.out
    have HTE := Lib.hid hte
    clear hte
    rintro e w5 ⟨ch5, ⟨hno, rfl⟩ | ⟨args, s1, G1, at', rows', v', va, m5, n, hargs, rfl, hat', hs1, st5, hn, hrows', hlk5, hpre, hblk, hnew, hfr⟩⟩
    · refine ⟨rfl, CH4.out.trans ch5 fun i hi hm => hm.mono BLK1.out hi, .inl ⟨?_, rfl⟩⟩
      rw [HTE.out, if_pos rfl, hno]
      rfl
    · have hnn : n = tupN [] := by
        simp at hn
        exact hn.symm
      subst hnn
      have c4 := st5.blk.cells.2.2.2.1
      have hG : tupT (rdT f) [] (-1) (S.drop at_) (rows.map (·.1)) (look m) = some ((rows.length : Int), s1, G1.set rows.length { tupN [] with args := args }) := by
        rw [HTE.out, if_pos rfl, hargs]
        rfl
      have hpre2 : rows'.take rows.length = rows := by
        have h1 := congrArg (List.take rows.length) hpre
        rw [List.take_take, List.set_append_right _ _ (Nat.le_refl _)] at h1
        simpa using h1
      have hnew2 : ∀ r ∈ rows'.drop rows.length, ∀ g, r.2.ownBlock = some g → w.heap.size ≤ g := by
        intro r hr g hg
        have h4 := HS4.out
        have hcut : rows'.drop rows.length = (rows'.take (rows.length + 1)).drop rows.length ++ rows'.drop (rows.length + 1) := by
          conv => lhs; rw [← List.take_append_drop (rows.length + 1) rows']
          rw [List.drop_append_of_le_length]
          have := congrArg List.length hpre
          simp at this
          simp; omega
        rw [hcut] at hr
        rcases List.mem_append.1 hr with hr | hr
        · have h1 : rows'.take (rows.length + 1) = rows ++ [({ tupN [] with args := args }, va)] := by
            have := hpre
            rw [List.set_append_right _ _ (Nat.le_refl _)] at this
            simpa using this
          rw [h1, List.drop_append_of_le_length (Nat.le_refl _)] at hr
          simp at hr
          rw [hr] at hg
          have := hfr g hg
          omega
        · have := hnew r (by simpa using hr) g hg
          omega
      have hblk2 : v'.ownBlock = v.ownBlock ∨ ∀ g, v'.ownBlock = some g → w.heap.size ≤ g := by
        rcases hblk with h | h
        · rcases BLK1.out with h' | h'
          · exact .inl (h.trans h')
          · exact .inr fun g hg => h' g (by rw [← h]; exact hg)
        · exact .inr fun g hg => by have := h g hg; have := HS4.out; omega
      have C5 : ChgS (RMay bm b v) w w5 := CH4.out.trans ch5 fun i hi hm => hm.mono BLK1.out hi
      have ST5 := Lib.hid st5
      have HC5 := Lib.hid C5
      have HG := Lib.hid hG
      have HP2 := Lib.hid hpre2
      have HN2 := Lib.hid hnew2
      have HB2 := Lib.hid hblk2
      have HR' := Lib.hid hrows'
      have HS1 := Lib.hid hs1
      have HLK5 := Lib.hid hlk5
      clear st5 C5 hG hpre2 hnew2 hblk2 hrows' hs1 hlk5 hargs hpre hblk hnew hfr ch5 hn
      go_wp2_with (at_delete; refine wpList_del rfl _ _ 82 rfl kl3 und82 ST5.out.map rfl (-1) HF.out rfl ?_)
      intro w6 hM6 hch6
      have hfin : ∀ x, look (del m5 (-1)) x = look m x := by
        intro x
        rw [look_del]
        by_cases hx : x = (-1)
        · rw [if_pos hx, hx, HLK.out]
        · rw [if_neg hx, HLK5.out x, ← congrFun HOP.out x, if_neg (fun h => hx h.2)]
      have st6 := ST5.out.chgM HOK.out ((ChgS.refl (fun i => i = bm) w5).chg hch6 (.inl rfl)) hM6
      have C6 : ChgS (RMay bm b v) w w6 := HC5.out.chg hch6 (.inl (.inr (.inl rfl)))
      have ST6 := Lib.hid st6
      have HC6 := Lib.hid C6
      have HFIN := Lib.hid hfin
      clear st6 C6 hfin hM6 hch6 c4
      go_wp2
      go_ret
      exact ⟨HC6.out, .inr ⟨_, s1, _, at', rows', v', (del m5 (-1)), HG.out, rfl, hat', HS1.out, ST6.out, HR'.out, HFIN.out, HP2.out, HB2.out, HN2.out⟩⟩
  · refine ⟨rfl, CH2.out.trans (T := fun i => i = b) ch3 fun _ _ h => .inl h, .inl ⟨?_, rfl⟩⟩
    unfold tupT
    rw [if_neg h40]
set_option maxRecDepth 100000 in
set_option maxHeartbeats 2000000 in
theorem rtup_nls (S : List UInt8) (hS : S.length ≤ 4000) (bm b M : Nat) (w0 : World) (ok : RdOk bm b M w0) (f : Nat) (IH : RNodeC S bm b M w0 f)
    (at_ : Nat) (rows : List (Nd × Value)) (v : Value) (m : List (Int × Int)) (w : World) (h : RdS S bm b M w0 w at_ rows v m) (ha : at_ ≤ S.length) (hf : S.length - at_ ≤ f) (hroom : rows.length + (S.length - at_) ≤ 4001) (L : List UInt8) (hL : L ≠ []) (was : Int) (hl : look m (-1) = some was) :
    Calls Tryz.prog 93 #[.pointer (some ⟨b, 0, none⟩), .string (bs L), .int .i64 (-1)] w (RTupPost S bm b M w0 f at_ L (-1) rows v m w) := by
  have HIH := Lib.hid IH
  have HOK := Lib.hid ok
  have H := Lib.hid h
  have HS := Lib.hid hS
  have HLK := Lib.hid hl
  have hLe : (bs L).toList.isEmpty = false := by rw [Go.Lib.toList_data, bs_list]; cases L with | nil => exact absurd rfl hL | cons _ _ => rfl
  have HLN := Lib.hid hL
  have hfits : Fits (-1) := fits_of (by omega) (by omega)
  have HF := Lib.hid hfits
  clear IH ok h hS hl hfits hL
  go_enter Tryz.func93, Tryz.ntmps93
  go_wp2_with fail
  refine (radd_any S bm b M w0 HOK.out at_ rows v m ⟨3, 0, bs L, []⟩ rfl w H.out (by omega)).mono ?_
  rintro e w1 ⟨rfl, v1, st1, ch1, blk1⟩
  have hlk := st1.map.lookup kl3 und82 zero3 HF.out true
  rw [HLK.out] at hlk
  have c4 := st1.blk.cells.2.2.2.1
  have hrun : (Instr.lookup 82 (.map (some bm)) (.int .i64 (-1)) true).run Tryz.prog w1 = .ok (.tuple #[.int .i64 was, .bool true]) w1 := hlk
  have ST1 := Lib.hid st1
  have CH1 := Lib.hid ch1
  have BLK1 := Lib.hid blk1
  clear st1 ch1 blk1 hlk
  have ST2 := ST1
  have CH2 := CH1
  have hs2 : w1.heap.size ≤ w1.heap.size := Nat.le_refl _
  have hop : (fun x => if 0 ≤ (-1 : Int) ∧ x = (-1) then some (rows.length : Int) else look m x) = look m := by
    funext x
    rw [if_neg (fun h => by omega)]
  have HOP := Lib.hid hop
  clear hop
  go_wp2_with fail
  refine (eat_any S HS.out bm b at_ v1 w1 ST2.out.blk ha 40 (by omega)).mono ?_
  rintro e w3 ⟨ch3, ⟨h40, rfl, hb3, hat⟩ | ⟨h40, rfl⟩⟩
  · have st3 := ST2.out.chgB HOK.out ch3 hb3
    have C3 : ChgS (RMay bm b v) w w3 := CH2.out.trans (T := fun i => i = b) ch3 fun _ _ h => .inl h
    have hs3 := ch3.size
    have H40 := Lib.hid h40
    have hst4 : RdS S bm b M w0 w3 (at_ + 1) (rows ++ [(tupN L, Value.slice none 0 0)]) v1 m := by
      have : tupN L = ⟨3, 0, bs L, []⟩ := by unfold tupN; rw [if_neg HLN.out]
      rw [this]; exact st3
    have ST4 := Lib.hid hst4
    have CH4 := Lib.hid C3
    have HS4 : Hid (w.heap.size ≤ w3.heap.size) := Lib.hid C3.size
    clear hst4 st3 hb3 ch3 C3 h40
    go_wp2_with fail
    refine (rargs_any S HS.out bm b M w0 HOK.out f HIH.out 32 (by omega) (at_ + 1) (rows ++ [(tupN L, Value.slice none 0 0)]) v1 m _ ST4.out hat (by omega) (by simp; omega) rows.length (by simp)).mono ?_
    have hte := tupT_eq (f := f) (L := L) (rows := rows) (Value.slice none 0 0) H40.out (by omega) HOP.out
    have HTE := Lib.hid hte
    clear hte
    rintro e w5 ⟨ch5, ⟨hno, rfl⟩ | ⟨args, s1, G1, at', rows', v', va, m5, n, hargs, rfl, hat', hs1, st5, hn, hrows', hlk5, hpre, hblk, hnew, hfr⟩⟩
    · refine ⟨rfl, CH4.out.trans ch5 fun i hi hm => hm.mono BLK1.out hi, .inl ⟨?_, rfl⟩⟩
      rw [HTE.out, if_neg HLN.out, hno]
      rfl
    · have hnn : n = tupN L := by
        simp at hn
        exact hn.symm
      subst hnn
      have c4 := st5.blk.cells.2.2.2.1
      have hG : tupT (rdT f) L (-1) (S.drop at_) (rows.map (·.1)) (look m) = some ((rows.length : Int), s1, G1.set rows.length { tupN L with args := args }) := by
        rw [HTE.out, if_neg HLN.out, hargs]
        rfl
      have hpre2 : rows'.take rows.length = rows := by
        have h1 := congrArg (List.take rows.length) hpre
        rw [List.take_take, List.set_append_right _ _ (Nat.le_refl _)] at h1
        simpa using h1
      have hnew2 : ∀ r ∈ rows'.drop rows.length, ∀ g, r.2.ownBlock = some g → w.heap.size ≤ g := by
        intro r hr g hg
        have h4 := HS4.out
        have hcut : rows'.drop rows.length = (rows'.take (rows.length + 1)).drop rows.length ++ rows'.drop (rows.length + 1) := by
          conv => lhs; rw [← List.take_append_drop (rows.length + 1) rows']
          rw [List.drop_append_of_le_length]
          have := congrArg List.length hpre
          simp at this
          simp; omega
        rw [hcut] at hr
        rcases List.mem_append.1 hr with hr | hr
        · have h1 : rows'.take (rows.length + 1) = rows ++ [({ tupN L with args := args }, va)] := by
            have := hpre
            rw [List.set_append_right _ _ (Nat.le_refl _)] at this
            simpa using this
          rw [h1, List.drop_append_of_le_length (Nat.le_refl _)] at hr
          simp at hr
          rw [hr] at hg
          have := hfr g hg
          omega
        · have := hnew r (by simpa using hr) g hg
          omega
      have hblk2 : v'.ownBlock = v.ownBlock ∨ ∀ g, v'.ownBlock = some g → w.heap.size ≤ g := by
        rcases hblk with h | h
        · rcases BLK1.out with h' | h'
          · exact .inl (h.trans h')
          · exact .inr fun g hg => h' g (by rw [← h]; exact hg)
        · exact .inr fun g hg => by have := h g hg; have := HS4.out; omega
      have C5 : ChgS (RMay bm b v) w w5 := CH4.out.trans ch5 fun i hi hm => hm.mono BLK1.out hi
      have ST5 := Lib.hid st5
      have HC5 := Lib.hid C5
      have HG := Lib.hid hG
      have HP2 := Lib.hid hpre2
      have HN2 := Lib.hid hnew2
      have HB2 := Lib.hid hblk2
      have HR' := Lib.hid hrows'
      have HS1 := Lib.hid hs1
      have HLK5 := Lib.hid hlk5
      clear st5 C5 hG hpre2 hnew2 hblk2 hrows' hs1 hlk5 hargs hpre hblk hnew hfr ch5 hn
      go_wp2_with (at_mapUpdate; refine wpList_upd rfl _ _ _ 82 rfl kl3 und82 ST5.out.map rfl (-1) HF.out rfl was rfl ?_)
      intro w6 hM6 hch6
      have hfin : ∀ x, look (ins m5 (-1) was) x = look m x := by
        intro x
        rw [look_ins]
        by_cases hx : x = (-1)
        · rw [if_pos hx, hx, HLK.out]
        · rw [if_neg hx, HLK5.out x, ← congrFun HOP.out x, if_neg (fun h => hx h.2)]
      have st6 := ST5.out.chgM HOK.out ((ChgS.refl (fun i => i = bm) w5).chg hch6 (.inl rfl)) hM6
      have C6 : ChgS (RMay bm b v) w w6 := HC5.out.chg hch6 (.inl (.inr (.inl rfl)))
      have ST6 := Lib.hid st6
      have HC6 := Lib.hid C6
      have HFIN := Lib.hid hfin
      clear st6 C6 hfin hM6 hch6 c4
      go_wp2
      go_ret
      exact ⟨HC6.out, .inr ⟨_, s1, _, at', rows', v', (ins m5 (-1) was), HG.out, rfl, hat', HS1.out, ST6.out, HR'.out, HFIN.out, HP2.out, HB2.out, HN2.out⟩⟩
  · refine ⟨rfl, CH2.out.trans (T := fun i => i = b) ch3 fun _ _ h => .inl h, .inl ⟨?_, rfl⟩⟩
    unfold tupT
    rw [if_neg h40]
set_option maxRecDepth 100000 in
set_option maxHeartbeats 2000000 in
theorem rtup_nlo (S : List UInt8) (hS : S.length ≤ 4000) (bm b M : Nat) (w0 : World) (ok : RdOk bm b M w0) (f : Nat) (IH : RNodeC S bm b M w0 f)
    (at_ : Nat) (rows : List (Nd × Value)) (v : Value) (m : List (Int × Int)) (w : World) (h : RdS S bm b M w0 w at_ rows v m) (ha : at_ ≤ S.length) (hf : S.length - at_ ≤ f) (hroom : rows.length + (S.length - at_) ≤ 4001) (L : List UInt8) (hL : L ≠ []) (hl : look m (-1) = none) :
    Calls Tryz.prog 93 #[.pointer (some ⟨b, 0, none⟩), .string (bs L), .int .i64 (-1)] w (RTupPost S bm b M w0 f at_ L (-1) rows v m w) := by
  have HIH := Lib.hid IH
  have HOK := Lib.hid ok
  have H := Lib.hid h
  have HS := Lib.hid hS
  have HLK := Lib.hid hl
  have hLe : (bs L).toList.isEmpty = false := by rw [Go.Lib.toList_data, bs_list]; cases L with | nil => exact absurd rfl hL | cons _ _ => rfl
  have HLN := Lib.hid hL
  have hfits : Fits (-1) := fits_of (by omega) (by omega)
  have HF := Lib.hid hfits
  clear IH ok h hS hl hfits hL
  go_enter Tryz.func93, Tryz.ntmps93
  go_wp2_with fail
  refine (radd_any S bm b M w0 HOK.out at_ rows v m ⟨3, 0, bs L, []⟩ rfl w H.out (by omega)).mono ?_
  rintro e w1 ⟨rfl, v1, st1, ch1, blk1⟩
  have hlk := st1.map.lookup kl3 und82 zero3 HF.out true
  rw [HLK.out] at hlk
  have c4 := st1.blk.cells.2.2.2.1
  have hrun : (Instr.lookup 82 (.map (some bm)) (.int .i64 (-1)) true).run Tryz.prog w1 = .ok (.tuple #[.int .i64 0, .bool false]) w1 := hlk
  have ST1 := Lib.hid st1
  have CH1 := Lib.hid ch1
  have BLK1 := Lib.hid blk1
  clear st1 ch1 blk1 hlk
  have ST2 := ST1
  have CH2 := CH1
  have hs2 : w1.heap.size ≤ w1.heap.size := Nat.le_refl _
  have hop : (fun x => if 0 ≤ (-1 : Int) ∧ x = (-1) then some (rows.length : Int) else look m x) = look m := by
    funext x
    rw [if_neg (fun h => by omega)]
  have HOP := Lib.hid hop
  clear hop
  go_wp2_with fail
  refine (eat_any S HS.out bm b at_ v1 w1 ST2.out.blk ha 40 (by omega)).mono ?_
  rintro e w3 ⟨ch3, ⟨h40, rfl, hb3, hat⟩ | ⟨h40, rfl⟩⟩
  · have st3 := ST2.out.chgB HOK.out ch3 hb3
    have C3 : ChgS (RMay bm b v) w w3 := CH2.out.trans (T := fun i => i = b) ch3 fun _ _ h => .inl h
    have hs3 := ch3.size
    have H40 := Lib.hid h40
    have hst4 : RdS S bm b M w0 w3 (at_ + 1) (rows ++ [(tupN L, Value.slice none 0 0)]) v1 m := by
      have : tupN L = ⟨3, 0, bs L, []⟩ := by unfold tupN; rw [if_neg HLN.out]
      rw [this]; exact st3
    have ST4 := Lib.hid hst4
    have CH4 := Lib.hid C3
    have HS4 : Hid (w.heap.size ≤ w3.heap.size) := Lib.hid C3.size
    clear hst4 st3 hb3 ch3 C3 h40
    go_wp2_with fail
    refine (rargs_any S HS.out bm b M w0 HOK.out f HIH.out 32 (by omega) (at_ + 1) (rows ++ [(tupN L, Value.slice none 0 0)]) v1 m _ ST4.out hat (by omega) (by simp; omega) rows.length (by simp)).mono ?_
    have hte := tupT_eq (f := f) (L := L) (rows := rows) (Value.slice none 0 0) H40.out (by omega) HOP.out
    have HTE := Lib.hid hte
    clear hte
    rintro e w5 ⟨ch5, ⟨hno, rfl⟩ | ⟨args, s1, G1, at', rows', v', va, m5, n, hargs, rfl, hat', hs1, st5, hn, hrows', hlk5, hpre, hblk, hnew, hfr⟩⟩
    · refine ⟨rfl, CH4.out.trans ch5 fun i hi hm => hm.mono BLK1.out hi, .inl ⟨?_, rfl⟩⟩
      rw [HTE.out, if_neg HLN.out, hno]
      rfl
    · have hnn : n = tupN L := by
        simp at hn
        exact hn.symm
      subst hnn
      have c4 := st5.blk.cells.2.2.2.1
      have hG : tupT (rdT f) L (-1) (S.drop at_) (rows.map (·.1)) (look m) = some ((rows.length : Int), s1, G1.set rows.length { tupN L with args := args }) := by
        rw [HTE.out, if_neg HLN.out, hargs]
        rfl
      have hpre2 : rows'.take rows.length = rows := by
        have h1 := congrArg (List.take rows.length) hpre
        rw [List.take_take, List.set_append_right _ _ (Nat.le_refl _)] at h1
        simpa using h1
      have hnew2 : ∀ r ∈ rows'.drop rows.length, ∀ g, r.2.ownBlock = some g → w.heap.size ≤ g := by
        intro r hr g hg
        have h4 := HS4.out
        have hcut : rows'.drop rows.length = (rows'.take (rows.length + 1)).drop rows.length ++ rows'.drop (rows.length + 1) := by
          conv => lhs; rw [← List.take_append_drop (rows.length + 1) rows']
          rw [List.drop_append_of_le_length]
          have := congrArg List.length hpre
          simp at this
          simp; omega
        rw [hcut] at hr
        rcases List.mem_append.1 hr with hr | hr
        · have h1 : rows'.take (rows.length + 1) = rows ++ [({ tupN L with args := args }, va)] := by
            have := hpre
            rw [List.set_append_right _ _ (Nat.le_refl _)] at this
            simpa using this
          rw [h1, List.drop_append_of_le_length (Nat.le_refl _)] at hr
          simp at hr
          rw [hr] at hg
          have := hfr g hg
          omega
        · have := hnew r (by simpa using hr) g hg
          omega
      have hblk2 : v'.ownBlock = v.ownBlock ∨ ∀ g, v'.ownBlock = some g → w.heap.size ≤ g := by
        rcases hblk with h | h
        · rcases BLK1.out with h' | h'
          · exact .inl (h.trans h')
          · exact .inr fun g hg => h' g (by rw [← h]; exact hg)
        · exact .inr fun g hg => by have := h g hg; have := HS4.out; omega
      have C5 : ChgS (RMay bm b v) w w5 := CH4.out.trans ch5 fun i hi hm => hm.mono BLK1.out hi
      have ST5 := Lib.hid st5
      have HC5 := Lib.hid C5
      have HG := Lib.hid hG
      have HP2 := Lib.hid hpre2
      have HN2 := Lib.hid hnew2
      have HB2 := Lib.hid hblk2
      have HR' := Lib.hid hrows'
      have HS1 := Lib.hid hs1
      have HLK5 := Lib.hid hlk5
      clear st5 C5 hG hpre2 hnew2 hblk2 hrows' hs1 hlk5 hargs hpre hblk hnew hfr ch5 hn
      go_wp2_with (at_delete; refine wpList_del rfl _ _ 82 rfl kl3 und82 ST5.out.map rfl (-1) HF.out rfl ?_)
      intro w6 hM6 hch6
      have hfin : ∀ x, look (del m5 (-1)) x = look m x := by
        intro x
        rw [look_del]
        by_cases hx : x = (-1)
        · rw [if_pos hx, hx, HLK.out]
        · rw [if_neg hx, HLK5.out x, ← congrFun HOP.out x, if_neg (fun h => hx h.2)]
      have st6 := ST5.out.chgM HOK.out ((ChgS.refl (fun i => i = bm) w5).chg hch6 (.inl rfl)) hM6
      have C6 : ChgS (RMay bm b v) w w6 := HC5.out.chg hch6 (.inl (.inr (.inl rfl)))
      have ST6 := Lib.hid st6
      have HC6 := Lib.hid C6
      have HFIN := Lib.hid hfin
      clear st6 C6 hfin hM6 hch6 c4
      go_wp2
      go_ret
      exact ⟨HC6.out, .inr ⟨_, s1, _, at', rows', v', (del m5 (-1)), HG.out, rfl, hat', HS1.out, ST6.out, HR'.out, HFIN.out, HP2.out, HB2.out, HN2.out⟩⟩
  · refine ⟨rfl, CH2.out.trans (T := fun i => i = b) ch3 fun _ _ h => .inl h, .inl ⟨?_, rfl⟩⟩
    unfold tupT
    rw [if_neg h40]
set_option maxRecDepth 100000 in
set_option maxHeartbeats 2000000 in
theorem rtup_pes (S : List UInt8) (hS : S.length ≤ 4000) (bm b M : Nat) (w0 : World) (ok : RdOk bm b M w0) (f : Nat) (IH : RNodeC S bm b M w0 f)
    (at_ : Nat) (rows : List (Nd × Value)) (v : Value) (m : List (Int × Int)) (w : World) (h : RdS S bm b M w0 w at_ rows v m) (ha : at_ ≤ S.length) (hf : S.length - at_ ≤ f) (hroom : rows.length + (S.length - at_) ≤ 4001) (no : Int) (h0 : 0 ≤ no) (h1 : no ≤ 9223372036854775807) (was : Int) (hl : look m no = some was) :
    Calls Tryz.prog 93 #[.pointer (some ⟨b, 0, none⟩), .string (bs []), .int .i64 no] w (RTupPost S bm b M w0 f at_ [] no rows v m w) := by
  have HIH := Lib.hid IH
  have HOK := Lib.hid ok
  have H := Lib.hid h
  have HS := Lib.hid hS
  have HLK := Lib.hid hl
  have hLe : (bs []).toList.isEmpty = true := by rw [Go.Lib.toList_data, bs_list]; rfl
  have hfits : Fits no := fits_of (by omega) (by omega)
  have hd0 : decide ((0 : Int) ≤ no) = true := by simpa using h0
  have HF := Lib.hid hfits
  clear IH ok h hS hl hfits
  go_enter Tryz.func93, Tryz.ntmps93
  go_wp2_with fail
  refine (radd_any S bm b M w0 HOK.out at_ rows v m ⟨3, 0, bs [], []⟩ rfl w H.out (by omega)).mono ?_
  rintro e w1 ⟨rfl, v1, st1, ch1, blk1⟩
  have hlk := st1.map.lookup kl3 und82 zero3 HF.out true
  rw [HLK.out] at hlk
  have c4 := st1.blk.cells.2.2.2.1
  have hrun : (Instr.lookup 82 (.map (some bm)) (.int .i64 no) true).run Tryz.prog w1 = .ok (.tuple #[.int .i64 was, .bool true]) w1 := hlk
  have ST1 := Lib.hid st1
  have CH1 := Lib.hid ch1
  have BLK1 := Lib.hid blk1
  clear st1 ch1 blk1 hlk
  go_wp2_with (at_mapUpdate; refine wpList_upd rfl _ _ _ 82 rfl kl3 und82 ST1.out.map rfl no HF.out rfl (rows.length : Int) rfl ?_)
  intro w2 hM hch
  have st2 := ST1.out.chgM HOK.out ((ChgS.refl (fun i => i = bm) w1).chg hch (.inl rfl)) hM
  have ch2 : ChgS (RMay bm b v) w w2 := CH1.out.trans (T := fun i => i = bm) ((ChgS.refl (fun i => i = bm) w1).chg hch (.inl rfl)) fun _ _ h => .inr (.inl h)
  have hs2 := hch.size
  have ST2 := Lib.hid st2
  have CH2 := Lib.hid ch2
  clear st2 ch2 hM hch hrun c4
  have hop : (fun x => if 0 ≤ no ∧ x = no then some (rows.length : Int) else look m x) = look (ins m no (rows.length : Int)) := by
    funext x
    rw [look_ins]
    by_cases hx : x = no
    · rw [if_pos ⟨h0, hx⟩, if_pos hx]
    · rw [if_neg (fun h => hx h.2), if_neg hx]
  have HOP := Lib.hid hop
  clear hop
  go_wp2_with fail
  refine (eat_any S HS.out bm b at_ v1 w2 ST2.out.blk ha 40 (by omega)).mono ?_
  rintro e w3 ⟨ch3, ⟨h40, rfl, hb3, hat⟩ | ⟨h40, rfl⟩⟩
  · have st3 := ST2.out.chgB HOK.out ch3 hb3
    have C3 : ChgS (RMay bm b v) w w3 := CH2.out.trans (T := fun i => i = b) ch3 fun _ _ h => .inl h
    have hs3 := ch3.size
    have H40 := Lib.hid h40
    obtain ⟨g, cap, cur, rfl, hMg, hgh, hcap, _⟩ := st3.own.at (by simp)
    simp only [List.length_append, List.length_cons, List.length_nil, Nat.zero_add] at hcap st3 ST1 ST2 BLK1 hb3
    have hk1 : rows.length < (rows ++ [((⟨3, 0, bs [], []⟩ : Nd), Value.slice none 0 0)]).length := by simp
    have hcl := (st3.own.cell (g := g) rfl rows.length hk1).2.2.1
    have hset := st3.own.setLab (g := g) rfl hk1 ⟨#[124]⟩
    have hrw : (rows ++ [((⟨3, 0, bs [], []⟩ : Nd), Value.slice none 0 0)]).set rows.length ({ (rows ++ [((⟨3, 0, bs [], []⟩ : Nd), Value.slice none 0 0)])[rows.length].1 with label := ⟨#[124]⟩ }, (rows ++ [((⟨3, 0, bs [], []⟩ : Nd), Value.slice none 0 0)])[rows.length].2) = rows ++ [(tupN [], Value.slice none 0 0)] := by
      rw [List.set_append_right _ _ (Nat.le_refl _)]
      simp [tupN, bs]
    rw [hrw] at hset
    have c2 := st3.blk.cells.2.2.1
    have fz : w3.frozen? ⟨g, rows.length * 4 + 2, none⟩ = false := by simp [World.frozen?, hgh]
    have hgb : g ≠ b ∧ g ≠ bm := by have := HOK.out.hb; have := HOK.out.hm; omega
    have C34 : ChgS (fun i => i = g) w3 (w3.setCell ⟨g, rows.length * 4 + 2, none⟩ (.string ⟨#[124]⟩)) := (ChgS.refl (fun i => i = g) w3).set (.inl rfl) _ _
    have hst4 : RdS S bm b M w0 (w3.setCell ⟨g, rows.length * 4 + 2, none⟩ (.string ⟨#[124]⟩)) (at_ + 1) (rows ++ [(tupN [], Value.slice none 0 0)]) (.slice (some ⟨g, 0, none⟩) (rows.length + 1) cap) (ins m no (rows.length : Int)) :=
      ⟨st3.ext.setNew (show w0.heap.size ≤ g by have := HOK.out.hb; omega) _, st3.blk.chg C34 (fun e => hgb.1 e.symm), C34.map st3.map (fun e => hgb.2 e.symm), hset, by have := C34.size; have := st3.size; omega⟩
    have hC4 : ChgS (RMay bm b v) w (w3.setCell ⟨g, rows.length * 4 + 2, none⟩ (.string ⟨#[124]⟩)) := by
      refine C3.set ?_ _ _
      rcases BLK1.out with h | h
      · exact .inl (.inr (.inr (by rw [← h]; rfl)))
      · exact .inr (h g rfl)
    have ST4 := Lib.hid hst4
    have CH4 := Lib.hid hC4
    have HS4 : Hid (w.heap.size ≤ (w3.setCell ⟨g, rows.length * 4 + 2, none⟩ (.string ⟨#[124]⟩)).heap.size) := Lib.hid hC4.size
    clear hst4 hC4 C34 hset hrw st3 hb3 ch3 C3 hgh h40
    go_wp2_with fail
    refine (rargs_any S HS.out bm b M w0 HOK.out f HIH.out 124 (by omega) (at_ + 1) (rows ++ [(tupN [], Value.slice none 0 0)]) (.slice (some ⟨g, 0, none⟩) (rows.length + 1) cap) (ins m no (rows.length : Int)) _ ST4.out hat (by omega) (by simp; omega) rows.length (by simp)).mono ?_
    have hte := tupT_eq (f := f) (L := []) (rows := rows) (Value.slice none 0 0) H40.out (by omega) HOP.out
    have HTE := Lib.hid hte
    clear hte
    rintro e w5 ⟨ch5, ⟨hno, rfl⟩ | ⟨args, s1, G1, at', rows', v', va, m5, n, hargs, rfl, hat', hs1, st5, hn, hrows', hlk5, hpre, hblk, hnew, hfr⟩⟩
    · refine ⟨rfl, CH4.out.trans ch5 fun i hi hm => hm.mono BLK1.out hi, .inl ⟨?_, rfl⟩⟩
      rw [HTE.out, if_pos rfl, hno]
      rfl
    · have hnn : n = tupN [] := by
        simp at hn
        exact hn.symm
      subst hnn
      have c4 := st5.blk.cells.2.2.2.1
      have hG : tupT (rdT f) [] no (S.drop at_) (rows.map (·.1)) (look m) = some ((rows.length : Int), s1, G1.set rows.length { tupN [] with args := args }) := by
        rw [HTE.out, if_pos rfl, hargs]
        rfl
      have hpre2 : rows'.take rows.length = rows := by
        have h1 := congrArg (List.take rows.length) hpre
        rw [List.take_take, List.set_append_right _ _ (Nat.le_refl _)] at h1
        simpa using h1
      have hnew2 : ∀ r ∈ rows'.drop rows.length, ∀ g, r.2.ownBlock = some g → w.heap.size ≤ g := by
        intro r hr g hg
        have h4 := HS4.out
        have hcut : rows'.drop rows.length = (rows'.take (rows.length + 1)).drop rows.length ++ rows'.drop (rows.length + 1) := by
          conv => lhs; rw [← List.take_append_drop (rows.length + 1) rows']
          rw [List.drop_append_of_le_length]
          have := congrArg List.length hpre
          simp at this
          simp; omega
        rw [hcut] at hr
        rcases List.mem_append.1 hr with hr | hr
        · have h1 : rows'.take (rows.length + 1) = rows ++ [({ tupN [] with args := args }, va)] := by
            have := hpre
            rw [List.set_append_right _ _ (Nat.le_refl _)] at this
            simpa using this
          rw [h1, List.drop_append_of_le_length (Nat.le_refl _)] at hr
          simp at hr
          rw [hr] at hg
          have := hfr g hg
          omega
        · have := hnew r (by simpa using hr) g hg
          omega
      have hblk2 : v'.ownBlock = v.ownBlock ∨ ∀ g, v'.ownBlock = some g → w.heap.size ≤ g := by
        rcases hblk with h | h
        · rcases BLK1.out with h' | h'
          · exact .inl (h.trans h')
          · exact .inr fun g hg => h' g (by rw [← h]; exact hg)
        · exact .inr fun g hg => by have := h g hg; have := HS4.out; omega
      have C5 : ChgS (RMay bm b v) w w5 := CH4.out.trans ch5 fun i hi hm => hm.mono BLK1.out hi
      have ST5 := Lib.hid st5
      have HC5 := Lib.hid C5
      have HG := Lib.hid hG
      have HP2 := Lib.hid hpre2
      have HN2 := Lib.hid hnew2
      have HB2 := Lib.hid hblk2
      have HR' := Lib.hid hrows'
      have HS1 := Lib.hid hs1
      have HLK5 := Lib.hid hlk5
      clear st5 C5 hG hpre2 hnew2 hblk2 hrows' hs1 hlk5 hargs hpre hblk hnew hfr ch5 hn
      go_wp2_with (at_mapUpdate; refine wpList_upd rfl _ _ _ 82 rfl kl3 und82 ST5.out.map rfl no HF.out rfl was rfl ?_)
      intro w6 hM6 hch6
      have hfin : ∀ x, look (ins m5 no was) x = look m x := by
        intro x
        rw [look_ins]
        by_cases hx : x = no
        · rw [if_pos hx, hx, HLK.out]
        · rw [if_neg hx, HLK5.out x, ← congrFun HOP.out x, if_neg (fun h => hx h.2)]
      have st6 := ST5.out.chgM HOK.out ((ChgS.refl (fun i => i = bm) w5).chg hch6 (.inl rfl)) hM6
      have C6 : ChgS (RMay bm b v) w w6 := HC5.out.chg hch6 (.inl (.inr (.inl rfl)))
      have ST6 := Lib.hid st6
      have HC6 := Lib.hid C6
      have HFIN := Lib.hid hfin
      clear st6 C6 hfin hM6 hch6 c4
      go_wp2
      go_ret
      exact ⟨HC6.out, .inr ⟨_, s1, _, at', rows', v', (ins m5 no was), HG.out, rfl, hat', HS1.out, ST6.out, HR'.out, HFIN.out, HP2.out, HB2.out, HN2.out⟩⟩
  · refine ⟨rfl, CH2.out.trans (T := fun i => i = b) ch3 fun _ _ h => .inl h, .inl ⟨?_, rfl⟩⟩
    unfold tupT
    rw [if_neg h40]
set_option maxRecDepth 100000 in
set_option maxHeartbeats 2000000 in
theorem rtup_peo (S : List UInt8) (hS : S.length ≤ 4000) (bm b M : Nat) (w0 : World) (ok : RdOk bm b M w0) (f : Nat) (IH : RNodeC S bm b M w0 f)
    (at_ : Nat) (rows : List (Nd × Value)) (v : Value) (m : List (Int × Int)) (w : World) (h : RdS S bm b M w0 w at_ rows v m) (ha : at_ ≤ S.length) (hf : S.length - at_ ≤ f) (hroom : rows.length + (S.length - at_) ≤ 4001) (no : Int) (h0 : 0 ≤ no) (h1 : no ≤ 9223372036854775807) (hl : look m no = none) :
    Calls Tryz.prog 93 #[.pointer (some ⟨b, 0, none⟩), .string (bs []), .int .i64 no] w (RTupPost S bm b M w0 f at_ [] no rows v m w) := by
  have HIH := Lib.hid IH
  have HOK := Lib.hid ok
  have H := Lib.hid h
  have HS := Lib.hid hS
  have HLK := Lib.hid hl
  have hLe : (bs []).toList.isEmpty = true := by rw [Go.Lib.toList_data, bs_list]; rfl
  have hfits : Fits no := fits_of (by omega) (by omega)
  have hd0 : decide ((0 : Int) ≤ no) = true := by simpa using h0
  have HF := Lib.hid hfits
  clear IH ok h hS hl hfits
  go_enter Tryz.func93, Tryz.ntmps93
  go_wp2_with fail
  refine (radd_any S bm b M w0 HOK.out at_ rows v m ⟨3, 0, bs [], []⟩ rfl w H.out (by omega)).mono ?_
  rintro e w1 ⟨rfl, v1, st1, ch1, blk1⟩
  have hlk := st1.map.lookup kl3 und82 zero3 HF.out true
  rw [HLK.out] at hlk
  have c4 := st1.blk.cells.2.2.2.1
  have hrun : (Instr.lookup 82 (.map (some bm)) (.int .i64 no) true).run Tryz.prog w1 = .ok (.tuple #[.int .i64 0, .bool false]) w1 := hlk
  have ST1 := Lib.hid st1
  have CH1 := Lib.hid ch1
  have BLK1 := Lib.hid blk1
  clear st1 ch1 blk1 hlk
  go_wp2_with (at_mapUpdate; refine wpList_upd rfl _ _ _ 82 rfl kl3 und82 ST1.out.map rfl no HF.out rfl (rows.length : Int) rfl ?_)
  intro w2 hM hch
  have st2 := ST1.out.chgM HOK.out ((ChgS.refl (fun i => i = bm) w1).chg hch (.inl rfl)) hM
  have ch2 : ChgS (RMay bm b v) w w2 := CH1.out.trans (T := fun i => i = bm) ((ChgS.refl (fun i => i = bm) w1).chg hch (.inl rfl)) fun _ _ h => .inr (.inl h)
  have hs2 := hch.size
  have ST2 := Lib.hid st2
  have CH2 := Lib.hid ch2
  clear st2 ch2 hM hch hrun c4
  have hop : (fun x => if 0 ≤ no ∧ x = no then some (rows.length : Int) else look m x) = look (ins m no (rows.length : Int)) := by
    funext x
    rw [look_ins]
    by_cases hx : x = no
    · rw [if_pos ⟨h0, hx⟩, if_pos hx]
    · rw [if_neg (fun h => hx h.2), if_neg hx]
  have HOP := Lib.hid hop
  clear hop
  go_wp2_with fail
  refine (eat_any S HS.out bm b at_ v1 w2 ST2.out.blk ha 40 (by omega)).mono ?_
  rintro e w3 ⟨ch3, ⟨h40, rfl, hb3, hat⟩ | ⟨h40, rfl⟩⟩
  · have st3 := ST2.out.chgB HOK.out ch3 hb3
    have C3 : ChgS (RMay bm b v) w w3 := CH2.out.trans (T := fun i => i = b) ch3 fun _ _ h => .inl h
    have hs3 := ch3.size
    have H40 := Lib.hid h40
    obtain ⟨g, cap, cur, rfl, hMg, hgh, hcap, _⟩ := st3.own.at (by simp)
    simp only [List.length_append, List.length_cons, List.length_nil, Nat.zero_add] at hcap st3 ST1 ST2 BLK1 hb3
    have hk1 : rows.length < (rows ++ [((⟨3, 0, bs [], []⟩ : Nd), Value.slice none 0 0)]).length := by simp
    have hcl := (st3.own.cell (g := g) rfl rows.length hk1).2.2.1
    have hset := st3.own.setLab (g := g) rfl hk1 ⟨#[124]⟩
    have hrw : (rows ++ [((⟨3, 0, bs [], []⟩ : Nd), Value.slice none 0 0)]).set rows.length ({ (rows ++ [((⟨3, 0, bs [], []⟩ : Nd), Value.slice none 0 0)])[rows.length].1 with label := ⟨#[124]⟩ }, (rows ++ [((⟨3, 0, bs [], []⟩ : Nd), Value.slice none 0 0)])[rows.length].2) = rows ++ [(tupN [], Value.slice none 0 0)] := by
      rw [List.set_append_right _ _ (Nat.le_refl _)]
      simp [tupN, bs]
    rw [hrw] at hset
    have c2 := st3.blk.cells.2.2.1
    have fz : w3.frozen? ⟨g, rows.length * 4 + 2, none⟩ = false := by simp [World.frozen?, hgh]
    have hgb : g ≠ b ∧ g ≠ bm := by have := HOK.out.hb; have := HOK.out.hm; omega
    have C34 : ChgS (fun i => i = g) w3 (w3.setCell ⟨g, rows.length * 4 + 2, none⟩ (.string ⟨#[124]⟩)) := (ChgS.refl (fun i => i = g) w3).set (.inl rfl) _ _
    have hst4 : RdS S bm b M w0 (w3.setCell ⟨g, rows.length * 4 + 2, none⟩ (.string ⟨#[124]⟩)) (at_ + 1) (rows ++ [(tupN [], Value.slice none 0 0)]) (.slice (some ⟨g, 0, none⟩) (rows.length + 1) cap) (ins m no (rows.length : Int)) :=
      ⟨st3.ext.setNew (show w0.heap.size ≤ g by have := HOK.out.hb; omega) _, st3.blk.chg C34 (fun e => hgb.1 e.symm), C34.map st3.map (fun e => hgb.2 e.symm), hset, by have := C34.size; have := st3.size; omega⟩
    have hC4 : ChgS (RMay bm b v) w (w3.setCell ⟨g, rows.length * 4 + 2, none⟩ (.string ⟨#[124]⟩)) := by
      refine C3.set ?_ _ _
      rcases BLK1.out with h | h
      · exact .inl (.inr (.inr (by rw [← h]; rfl)))
      · exact .inr (h g rfl)
    have ST4 := Lib.hid hst4
    have CH4 := Lib.hid hC4
    have HS4 : Hid (w.heap.size ≤ (w3.setCell ⟨g, rows.length * 4 + 2, none⟩ (.string ⟨#[124]⟩)).heap.size) := Lib.hid hC4.size
    clear hst4 hC4 C34 hset hrw st3 hb3 ch3 C3 hgh h40
    go_wp2_with fail
    refine (rargs_any S HS.out bm b M w0 HOK.out f HIH.out 124 (by omega) (at_ + 1) (rows ++ [(tupN [], Value.slice none 0 0)]) (.slice (some ⟨g, 0, none⟩) (rows.length + 1) cap) (ins m no (rows.length : Int)) _ ST4.out hat (by omega) (by simp; omega) rows.length (by simp)).mono ?_
    have hte := tupT_eq (f := f) (L := []) (rows := rows) (Value.slice none 0 0) H40.out (by omega) HOP.out
    have HTE := Lib.hid hte
    clear hte
    rintro e w5 ⟨ch5, ⟨hno, rfl⟩ | ⟨args, s1, G1, at', rows', v', va, m5, n, hargs, rfl, hat', hs1, st5, hn, hrows', hlk5, hpre, hblk, hnew, hfr⟩⟩
    · refine ⟨rfl, CH4.out.trans ch5 fun i hi hm => hm.mono BLK1.out hi, .inl ⟨?_, rfl⟩⟩
      rw [HTE.out, if_pos rfl, hno]
      rfl
    · have hnn : n = tupN [] := by
        simp at hn
        exact hn.symm
      subst hnn
      have c4 := st5.blk.cells.2.2.2.1
      have hG : tupT (rdT f) [] no (S.drop at_) (rows.map (·.1)) (look m) = some ((rows.length : Int), s1, G1.set rows.length { tupN [] with args := args }) := by
        rw [HTE.out, if_pos rfl, hargs]
        rfl
      have hpre2 : rows'.take rows.length = rows := by
        have h1 := congrArg (List.take rows.length) hpre
        rw [List.take_take, List.set_append_right _ _ (Nat.le_refl _)] at h1
        simpa using h1
      have hnew2 : ∀ r ∈ rows'.drop rows.length, ∀ g, r.2.ownBlock = some g → w.heap.size ≤ g := by
        intro r hr g hg
        have h4 := HS4.out
        have hcut : rows'.drop rows.length = (rows'.take (rows.length + 1)).drop rows.length ++ rows'.drop (rows.length + 1) := by
          conv => lhs; rw [← List.take_append_drop (rows.length + 1) rows']
          rw [List.drop_append_of_le_length]
          have := congrArg List.length hpre
          simp at this
          simp; omega
        rw [hcut] at hr
        rcases List.mem_append.1 hr with hr | hr
        · have h1 : rows'.take (rows.length + 1) = rows ++ [({ tupN [] with args := args }, va)] := by
            have := hpre
            rw [List.set_append_right _ _ (Nat.le_refl _)] at this
            simpa using this
          rw [h1, List.drop_append_of_le_length (Nat.le_refl _)] at hr
          simp at hr
          rw [hr] at hg
          have := hfr g hg
          omega
        · have := hnew r (by simpa using hr) g hg
          omega
      have hblk2 : v'.ownBlock = v.ownBlock ∨ ∀ g, v'.ownBlock = some g → w.heap.size ≤ g := by
        rcases hblk with h | h
        · rcases BLK1.out with h' | h'
          · exact .inl (h.trans h')
          · exact .inr fun g hg => h' g (by rw [← h]; exact hg)
        · exact .inr fun g hg => by have := h g hg; have := HS4.out; omega
      have C5 : ChgS (RMay bm b v) w w5 := CH4.out.trans ch5 fun i hi hm => hm.mono BLK1.out hi
      have ST5 := Lib.hid st5
      have HC5 := Lib.hid C5
      have HG := Lib.hid hG
      have HP2 := Lib.hid hpre2
      have HN2 := Lib.hid hnew2
      have HB2 := Lib.hid hblk2
      have HR' := Lib.hid hrows'
      have HS1 := Lib.hid hs1
      have HLK5 := Lib.hid hlk5
      clear st5 C5 hG hpre2 hnew2 hblk2 hrows' hs1 hlk5 hargs hpre hblk hnew hfr ch5 hn
      go_wp2_with (at_delete; refine wpList_del rfl _ _ 82 rfl kl3 und82 ST5.out.map rfl no HF.out rfl ?_)
      intro w6 hM6 hch6
      have hfin : ∀ x, look (del m5 no) x = look m x := by
        intro x
        rw [look_del]
        by_cases hx : x = no
        · rw [if_pos hx, hx, HLK.out]
        · rw [if_neg hx, HLK5.out x, ← congrFun HOP.out x, if_neg (fun h => hx h.2)]
      have st6 := ST5.out.chgM HOK.out ((ChgS.refl (fun i => i = bm) w5).chg hch6 (.inl rfl)) hM6
      have C6 : ChgS (RMay bm b v) w w6 := HC5.out.chg hch6 (.inl (.inr (.inl rfl)))
      have ST6 := Lib.hid st6
      have HC6 := Lib.hid C6
      have HFIN := Lib.hid hfin
      clear st6 C6 hfin hM6 hch6 c4
      go_wp2
      go_ret
      exact ⟨HC6.out, .inr ⟨_, s1, _, at', rows', v', (del m5 no), HG.out, rfl, hat', HS1.out, ST6.out, HR'.out, HFIN.out, HP2.out, HB2.out, HN2.out⟩⟩
  · refine ⟨rfl, CH2.out.trans (T := fun i => i = b) ch3 fun _ _ h => .inl h, .inl ⟨?_, rfl⟩⟩
    unfold tupT
    rw [if_neg h40]
set_option maxRecDepth 100000 in
set_option maxHeartbeats 2000000 in
theorem rtup_pls (S : List UInt8) (hS : S.length ≤ 4000) (bm b M : Nat) (w0 : World) (ok : RdOk bm b M w0) (f : Nat) (IH : RNodeC S bm b M w0 f)
    (at_ : Nat) (rows : List (Nd × Value)) (v : Value) (m : List (Int × Int)) (w : World) (h : RdS S bm b M w0 w at_ rows v m) (ha : at_ ≤ S.length) (hf : S.length - at_ ≤ f) (hroom : rows.length + (S.length - at_) ≤ 4001) (no : Int) (h0 : 0 ≤ no) (h1 : no ≤ 9223372036854775807) (L : List UInt8) (hL : L ≠ []) (was : Int) (hl : look m no = some was) :
    Calls Tryz.prog 93 #[.pointer (some ⟨b, 0, none⟩), .string (bs L), .int .i64 no] w (RTupPost S bm b M w0 f at_ L no rows v m w) := by
  have HIH := Lib.hid IH
  have HOK := Lib.hid ok
  have H := Lib.hid h
  have HS := Lib.hid hS
  have HLK := Lib.hid hl
  have hLe : (bs L).toList.isEmpty = false := by rw [Go.Lib.toList_data, bs_list]; cases L with | nil => exact absurd rfl hL | cons _ _ => rfl
  have HLN := Lib.hid hL
  have hfits : Fits no := fits_of (by omega) (by omega)
  have hd0 : decide ((0 : Int) ≤ no) = true := by simpa using h0
  have HF := Lib.hid hfits
  clear IH ok h hS hl hfits hL
  go_enter Tryz.func93, Tryz.ntmps93
  go_wp2_with fail
  refine (radd_any S bm b M w0 HOK.out at_ rows v m ⟨3, 0, bs L, []⟩ rfl w H.out (by omega)).mono ?_
  rintro e w1 ⟨rfl, v1, st1, ch1, blk1⟩
  have hlk := st1.map.lookup kl3 und82 zero3 HF.out true
  rw [HLK.out] at hlk
  have c4 := st1.blk.cells.2.2.2.1
  have hrun : (Instr.lookup 82 (.map (some bm)) (.int .i64 no) true).run Tryz.prog w1 = .ok (.tuple #[.int .i64 was, .bool true]) w1 := hlk
  have ST1 := Lib.hid st1
  have CH1 := Lib.hid ch1
  have BLK1 := Lib.hid blk1
  clear st1 ch1 blk1 hlk
  go_wp2_with (at_mapUpdate; refine wpList_upd rfl _ _ _ 82 rfl kl3 und82 ST1.out.map rfl no HF.out rfl (rows.length : Int) rfl ?_)
  intro w2 hM hch
  have st2 := ST1.out.chgM HOK.out ((ChgS.refl (fun i => i = bm) w1).chg hch (.inl rfl)) hM
  have ch2 : ChgS (RMay bm b v) w w2 := CH1.out.trans (T := fun i => i = bm) ((ChgS.refl (fun i => i = bm) w1).chg hch (.inl rfl)) fun _ _ h => .inr (.inl h)
  have hs2 := hch.size
  have ST2 := Lib.hid st2
  have CH2 := Lib.hid ch2
  clear st2 ch2 hM hch hrun c4
  have hop : (fun x => if 0 ≤ no ∧ x = no then some (rows.length : Int) else look m x) = look (ins m no (rows.length : Int)) := by
    funext x
    rw [look_ins]
    by_cases hx : x = no
    · rw [if_pos ⟨h0, hx⟩, if_pos hx]
    · rw [if_neg (fun h => hx h.2), if_neg hx]
  have HOP := Lib.hid hop
  clear hop
  go_wp2_with fail
  refine (eat_any S HS.out bm b at_ v1 w2 ST2.out.blk ha 40 (by omega)).mono ?_
  rintro e w3 ⟨ch3, ⟨h40, rfl, hb3, hat⟩ | ⟨h40, rfl⟩⟩
  · have st3 := ST2.out.chgB HOK.out ch3 hb3
    have C3 : ChgS (RMay bm b v) w w3 := CH2.out.trans (T := fun i => i = b) ch3 fun _ _ h => .inl h
    have hs3 := ch3.size
    have H40 := Lib.hid h40
    have hst4 : RdS S bm b M w0 w3 (at_ + 1) (rows ++ [(tupN L, Value.slice none 0 0)]) v1 (ins m no (rows.length : Int)) := by
      have : tupN L = ⟨3, 0, bs L, []⟩ := by unfold tupN; rw [if_neg HLN.out]
      rw [this]; exact st3
    have ST4 := Lib.hid hst4
    have CH4 := Lib.hid C3
    have HS4 : Hid (w.heap.size ≤ w3.heap.size) := Lib.hid C3.size
    clear hst4 st3 hb3 ch3 C3 h40
    go_wp2_with fail
    refine (rargs_any S HS.out bm b M w0 HOK.out f HIH.out 32 (by omega) (at_ + 1) (rows ++ [(tupN L, Value.slice none 0 0)]) v1 (ins m no (rows.length : Int)) _ ST4.out hat (by omega) (by simp; omega) rows.length (by simp)).mono ?_
    have hte := tupT_eq (f := f) (L := L) (rows := rows) (Value.slice none 0 0) H40.out (by omega) HOP.out
    have HTE := Lib.hid hte
    clear hte
    rintro e w5 ⟨ch5, ⟨hno, rfl⟩ | ⟨args, s1, G1, at', rows', v', va, m5, n, hargs, rfl, hat', hs1, st5, hn, hrows', hlk5, hpre, hblk, hnew, hfr⟩⟩
    · refine ⟨rfl, CH4.out.trans ch5 fun i hi hm => hm.mono BLK1.out hi, .inl ⟨?_, rfl⟩⟩
      rw [HTE.out, if_neg HLN.out, hno]
      rfl
    · have hnn : n = tupN L := by
        simp at hn
        exact hn.symm
      subst hnn
      have c4 := st5.blk.cells.2.2.2.1
      have hG : tupT (rdT f) L no (S.drop at_) (rows.map (·.1)) (look m) = some ((rows.length : Int), s1, G1.set rows.length { tupN L with args := args }) := by
        rw [HTE.out, if_neg HLN.out, hargs]
        rfl
      have hpre2 : rows'.take rows.length = rows := by
        have h1 := congrArg (List.take rows.length) hpre
        rw [List.take_take, List.set_append_right _ _ (Nat.le_refl _)] at h1
        simpa using h1
      have hnew2 : ∀ r ∈ rows'.drop rows.length, ∀ g, r.2.ownBlock = some g → w.heap.size ≤ g := by
        intro r hr g hg
        have h4 := HS4.out
        have hcut : rows'.drop rows.length = (rows'.take (rows.length + 1)).drop rows.length ++ rows'.drop (rows.length + 1) := by
          conv => lhs; rw [← List.take_append_drop (rows.length + 1) rows']
          rw [List.drop_append_of_le_length]
          have := congrArg List.length hpre
          simp at this
          simp; omega
        rw [hcut] at hr
        rcases List.mem_append.1 hr with hr | hr
        · have h1 : rows'.take (rows.length + 1) = rows ++ [({ tupN L with args := args }, va)] := by
            have := hpre
            rw [List.set_append_right _ _ (Nat.le_refl _)] at this
            simpa using this
          rw [h1, List.drop_append_of_le_length (Nat.le_refl _)] at hr
          simp at hr
          rw [hr] at hg
          have := hfr g hg
          omega
        · have := hnew r (by simpa using hr) g hg
          omega
      have hblk2 : v'.ownBlock = v.ownBlock ∨ ∀ g, v'.ownBlock = some g → w.heap.size ≤ g := by
        rcases hblk with h | h
        · rcases BLK1.out with h' | h'
          · exact .inl (h.trans h')
          · exact .inr fun g hg => h' g (by rw [← h]; exact hg)
        · exact .inr fun g hg => by have := h g hg; have := HS4.out; omega
      have C5 : ChgS (RMay bm b v) w w5 := CH4.out.trans ch5 fun i hi hm => hm.mono BLK1.out hi
      have ST5 := Lib.hid st5
      have HC5 := Lib.hid C5
      have HG := Lib.hid hG
      have HP2 := Lib.hid hpre2
      have HN2 := Lib.hid hnew2
      have HB2 := Lib.hid hblk2
      have HR' := Lib.hid hrows'
      have HS1 := Lib.hid hs1
      have HLK5 := Lib.hid hlk5
      clear st5 C5 hG hpre2 hnew2 hblk2 hrows' hs1 hlk5 hargs hpre hblk hnew hfr ch5 hn
      go_wp2_with (at_mapUpdate; refine wpList_upd rfl _ _ _ 82 rfl kl3 und82 ST5.out.map rfl no HF.out rfl was rfl ?_)
      intro w6 hM6 hch6
      have hfin : ∀ x, look (ins m5 no was) x = look m x := by
        intro x
        rw [look_ins]
        by_cases hx : x = no
        · rw [if_pos hx, hx, HLK.out]
        · rw [if_neg hx, HLK5.out x, ← congrFun HOP.out x, if_neg (fun h => hx h.2)]
      have st6 := ST5.out.chgM HOK.out ((ChgS.refl (fun i => i = bm) w5).chg hch6 (.inl rfl)) hM6
      have C6 : ChgS (RMay bm b v) w w6 := HC5.out.chg hch6 (.inl (.inr (.inl rfl)))
      have ST6 := Lib.hid st6
      have HC6 := Lib.hid C6
      have HFIN := Lib.hid hfin
      clear st6 C6 hfin hM6 hch6 c4
      go_wp2
      go_ret
      exact ⟨HC6.out, .inr ⟨_, s1, _, at', rows', v', (ins m5 no was), HG.out, rfl, hat', HS1.out, ST6.out, HR'.out, HFIN.out, HP2.out, HB2.out, HN2.out⟩⟩
  · refine ⟨rfl, CH2.out.trans (T := fun i => i = b) ch3 fun _ _ h => .inl h, .inl ⟨?_, rfl⟩⟩
    unfold tupT
    rw [if_neg h40]
set_option maxRecDepth 100000 in
set_option maxHeartbeats 2000000 in
theorem rtup_plo (S : List UInt8) (hS : S.length ≤ 4000) (bm b M : Nat) (w0 : World) (ok : RdOk bm b M w0) (f : Nat) (IH : RNodeC S bm b M w0 f)
    (at_ : Nat) (rows : List (Nd × Value)) (v : Value) (m : List (Int × Int)) (w : World) (h : RdS S bm b M w0 w at_ rows v m) (ha : at_ ≤ S.length) (hf : S.length - at_ ≤ f) (hroom : rows.length + (S.length - at_) ≤ 4001) (no : Int) (h0 : 0 ≤ no) (h1 : no ≤ 9223372036854775807) (L : List UInt8) (hL : L ≠ []) (hl : look m no = none) :
    Calls Tryz.prog 93 #[.pointer (some ⟨b, 0, none⟩), .string (bs L), .int .i64 no] w (RTupPost S bm b M w0 f at_ L no rows v m w) := by
  have HIH := Lib.hid IH
  have HOK := Lib.hid ok
  have H := Lib.hid h
  have HS := Lib.hid hS
  have HLK := Lib.hid hl
  have hLe : (bs L).toList.isEmpty = false := by rw [Go.Lib.toList_data, bs_list]; cases L with | nil => exact absurd rfl hL | cons _ _ => rfl
  have HLN := Lib.hid hL
  have hfits : Fits no := fits_of (by omega) (by omega)
  have hd0 : decide ((0 : Int) ≤ no) = true := by simpa using h0
  have HF := Lib.hid hfits
  clear IH ok h hS hl hfits hL
  go_enter Tryz.func93, Tryz.ntmps93
  go_wp2_with fail
  refine (radd_any S bm b M w0 HOK.out at_ rows v m ⟨3, 0, bs L, []⟩ rfl w H.out (by omega)).mono ?_
  rintro e w1 ⟨rfl, v1, st1, ch1, blk1⟩
  have hlk := st1.map.lookup kl3 und82 zero3 HF.out true
  rw [HLK.out] at hlk
  have c4 := st1.blk.cells.2.2.2.1
  have hrun : (Instr.lookup 82 (.map (some bm)) (.int .i64 no) true).run Tryz.prog w1 = .ok (.tuple #[.int .i64 0, .bool false]) w1 := hlk
  have ST1 := Lib.hid st1
  have CH1 := Lib.hid ch1
  have BLK1 := Lib.hid blk1
  clear st1 ch1 blk1 hlk
  go_wp2_with (at_mapUpdate; refine wpList_upd rfl _ _ _ 82 rfl kl3 und82 ST1.out.map rfl no HF.out rfl (rows.length : Int) rfl ?_)
  intro w2 hM hch
  have st2 := ST1.out.chgM HOK.out ((ChgS.refl (fun i => i = bm) w1).chg hch (.inl rfl)) hM
  have ch2 : ChgS (RMay bm b v) w w2 := CH1.out.trans (T := fun i => i = bm) ((ChgS.refl (fun i => i = bm) w1).chg hch (.inl rfl)) fun _ _ h => .inr (.inl h)
  have hs2 := hch.size
  have ST2 := Lib.hid st2
  have CH2 := Lib.hid ch2
  clear st2 ch2 hM hch hrun c4
  have hop : (fun x => if 0 ≤ no ∧ x = no then some (rows.length : Int) else look m x) = look (ins m no (rows.length : Int)) := by
    funext x
    rw [look_ins]
    by_cases hx : x = no
    · rw [if_pos ⟨h0, hx⟩, if_pos hx]
    · rw [if_neg (fun h => hx h.2), if_neg hx]
  have HOP := Lib.hid hop
  clear hop
  go_wp2_with fail
  refine (eat_any S HS.out bm b at_ v1 w2 ST2.out.blk ha 40 (by omega)).mono ?_
  rintro e w3 ⟨ch3, ⟨h40, rfl, hb3, hat⟩ | ⟨h40, rfl⟩⟩
  · have st3 := ST2.out.chgB HOK.out ch3 hb3
    have C3 : ChgS (RMay bm b v) w w3 := CH2.out.trans (T := fun i => i = b) ch3 fun _ _ h => .inl h
    have hs3 := ch3.size
    have H40 := Lib.hid h40
    have hst4 : RdS S bm b M w0 w3 (at_ + 1) (rows ++ [(tupN L, Value.slice none 0 0)]) v1 (ins m no (rows.length : Int)) := by
      have : tupN L = ⟨3, 0, bs L, []⟩ := by unfold tupN; rw [if_neg HLN.out]
      rw [this]; exact st3
    have ST4 := Lib.hid hst4
    have CH4 := Lib.hid C3
    have HS4 : Hid (w.heap.size ≤ w3.heap.size) := Lib.hid C3.size
    clear hst4 st3 hb3 ch3 C3 h40
    go_wp2_with fail
    refine (rargs_any S HS.out bm b M w0 HOK.out f HIH.out 32 (by omega) (at_ + 1) (rows ++ [(tupN L, Value.slice none 0 0)]) v1 (ins m no (rows.length : Int)) _ ST4.out hat (by omega) (by simp; omega) rows.length (by simp)).mono ?_
    have hte := tupT_eq (f := f) (L := L) (rows := rows) (Value.slice none 0 0) H40.out (by omega) HOP.out
    have HTE := Lib.hid hte
    clear hte
    rintro e w5 ⟨ch5, ⟨hno, rfl⟩ | ⟨args, s1, G1, at', rows', v', va, m5, n, hargs, rfl, hat', hs1, st5, hn, hrows', hlk5, hpre, hblk, hnew, hfr⟩⟩
    · refine ⟨rfl, CH4.out.trans ch5 fun i hi hm => hm.mono BLK1.out hi, .inl ⟨?_, rfl⟩⟩
      rw [HTE.out, if_neg HLN.out, hno]
      rfl
    · have hnn : n = tupN L := by
        simp at hn
        exact hn.symm
      subst hnn
      have c4 := st5.blk.cells.2.2.2.1
      have hG : tupT (rdT f) L no (S.drop at_) (rows.map (·.1)) (look m) = some ((rows.length : Int), s1, G1.set rows.length { tupN L with args := args }) := by
        rw [HTE.out, if_neg HLN.out, hargs]
        rfl
      have hpre2 : rows'.take rows.length = rows := by
        have h1 := congrArg (List.take rows.length) hpre
        rw [List.take_take, List.set_append_right _ _ (Nat.le_refl _)] at h1
        simpa using h1
      have hnew2 : ∀ r ∈ rows'.drop rows.length, ∀ g, r.2.ownBlock = some g → w.heap.size ≤ g := by
        intro r hr g hg
        have h4 := HS4.out
        have hcut : rows'.drop rows.length = (rows'.take (rows.length + 1)).drop rows.length ++ rows'.drop (rows.length + 1) := by
          conv => lhs; rw [← List.take_append_drop (rows.length + 1) rows']
          rw [List.drop_append_of_le_length]
          have := congrArg List.length hpre
          simp at this
          simp; omega
        rw [hcut] at hr
        rcases List.mem_append.1 hr with hr | hr
        · have h1 : rows'.take (rows.length + 1) = rows ++ [({ tupN L with args := args }, va)] := by
            have := hpre
            rw [List.set_append_right _ _ (Nat.le_refl _)] at this
            simpa using this
          rw [h1, List.drop_append_of_le_length (Nat.le_refl _)] at hr
          simp at hr
          rw [hr] at hg
          have := hfr g hg
          omega
        · have := hnew r (by simpa using hr) g hg
          omega
      have hblk2 : v'.ownBlock = v.ownBlock ∨ ∀ g, v'.ownBlock = some g → w.heap.size ≤ g := by
        rcases hblk with h | h
        · rcases BLK1.out with h' | h'
          · exact .inl (h.trans h')
          · exact .inr fun g hg => h' g (by rw [← h]; exact hg)
        · exact .inr fun g hg => by have := h g hg; have := HS4.out; omega
      have C5 : ChgS (RMay bm b v) w w5 := CH4.out.trans ch5 fun i hi hm => hm.mono BLK1.out hi
      have ST5 := Lib.hid st5
      have HC5 := Lib.hid C5
      have HG := Lib.hid hG
      have HP2 := Lib.hid hpre2
      have HN2 := Lib.hid hnew2
      have HB2 := Lib.hid hblk2
      have HR' := Lib.hid hrows'
      have HS1 := Lib.hid hs1
      have HLK5 := Lib.hid hlk5
      clear st5 C5 hG hpre2 hnew2 hblk2 hrows' hs1 hlk5 hargs hpre hblk hnew hfr ch5 hn
      go_wp2_with (at_delete; refine wpList_del rfl _ _ 82 rfl kl3 und82 ST5.out.map rfl no HF.out rfl ?_)
      intro w6 hM6 hch6
      have hfin : ∀ x, look (del m5 no) x = look m x := by
        intro x
        rw [look_del]
        by_cases hx : x = no
        · rw [if_pos hx, hx, HLK.out]
        · rw [if_neg hx, HLK5.out x, ← congrFun HOP.out x, if_neg (fun h => hx h.2)]
      have st6 := ST5.out.chgM HOK.out ((ChgS.refl (fun i => i = bm) w5).chg hch6 (.inl rfl)) hM6
      have C6 : ChgS (RMay bm b v) w w6 := HC5.out.chg hch6 (.inl (.inr (.inl rfl)))
      have ST6 := Lib.hid st6
      have HC6 := Lib.hid C6
      have HFIN := Lib.hid hfin
      clear st6 C6 hfin hM6 hch6 c4
      go_wp2
      go_ret
      exact ⟨HC6.out, .inr ⟨_, s1, _, at', rows', v', (del m5 no), HG.out, rfl, hat', HS1.out, ST6.out, HR'.out, HFIN.out, HP2.out, HB2.out, HN2.out⟩⟩
  · refine ⟨rfl, CH2.out.trans (T := fun i => i = b) ch3 fun _ _ h => .inl h, .inl ⟨?_, rfl⟩⟩
    unfold tupT
    rw [if_neg h40]
theorem rtuple_any (S : List UInt8) (hS : S.length ≤ 4000) (bm b M : Nat) (w0 : World) (ok : RdOk bm b M w0) (f : Nat) (IH : RNodeC S bm b M w0 f)
    (at_ : Nat) (rows : List (Nd × Value)) (v : Value) (m : List (Int × Int)) (w : World) (h : RdS S bm b M w0 w at_ rows v m) (ha : at_ ≤ S.length) (hf : S.length - at_ ≤ f) (hroom : rows.length + (S.length - at_) ≤ 4001) (L : List UInt8) (no : Int) (hno : no = -1 ∨ (0 ≤ no ∧ no ≤ 9223372036854775807)) :
    Calls Tryz.prog 93 #[.pointer (some ⟨b, 0, none⟩), .string (bs L), .int .i64 no] w (RTupPost S bm b M w0 f at_ L no rows v m w) := by
  rcases hno with rfl | ⟨h0, h1⟩
  · by_cases hL : L = []
    · subst hL
      cases hl : look m (-1) with
      | some was => exact rtup_nes S hS bm b M w0 ok f IH at_ rows v m w h ha hf hroom was hl
      | none => exact rtup_neo S hS bm b M w0 ok f IH at_ rows v m w h ha hf hroom hl
    · cases hl : look m (-1) with
      | some was => exact rtup_nls S hS bm b M w0 ok f IH at_ rows v m w h ha hf hroom L hL was hl
      | none => exact rtup_nlo S hS bm b M w0 ok f IH at_ rows v m w h ha hf hroom L hL hl
  · by_cases hL : L = []
    · subst hL
      cases hl : look m no with
      | some was => exact rtup_pes S hS bm b M w0 ok f IH at_ rows v m w h ha hf hroom no h0 h1 was hl
      | none => exact rtup_peo S hS bm b M w0 ok f IH at_ rows v m w h ha hf hroom no h0 h1 hl
    · cases hl : look m no with
      | some was => exact rtup_pls S hS bm b M w0 ok f IH at_ rows v m w h ha hf hroom no h0 h1 L hL was hl
      | none => exact rtup_plo S hS bm b M w0 ok f IH at_ rows v m w h ha hf hroom no h0 h1 L hL hl
end Go.Proofs.YtnleljpebnnhfaaGreatDoor

set_option linter.unusedSimpArgs false
set_option linter.unusedVariables false
set_option linter.unusedSectionVars false
namespace Go.Proofs.YtnleljpebnnhfaaGreatDoor
open Go.RowKit
section
variable {f : Nat} {op : Int → Option Int} {s : List UInt8} {G : List Nd}
theorem rdT_at95 (h : hd s = 95) : rdT (f + 1) op s G = (numOf ((wordT s).1.drop 1)).map fun n => ((G.length : Int), (wordT s).2, G ++ [⟨0, n, bs [], []⟩]) := by
  unfold rdT
  rw [if_pos h]
  cases numOf ((wordT s).1.drop 1) <;> rfl
theorem rdT_at60 (h : hd s = 60) : rdT (f + 1) op s G = if hd (wordT s.tail).2 = 32 then (match numT (wordT s.tail).2.tail with | none => none | some (n, s1) => if hd s1 = 62 then some ((G.length : Int), s1.tail, G ++ [⟨4, n, bs (wordT s.tail).1, []⟩]) else none) else none := by
  unfold rdT
  rw [if_neg (by omega), if_pos h]
  rfl
theorem rdT_at64 (h : hd s = 64) : rdT (f + 1) op s G = (match numT s.tail with | none => none | some (n, s1) => (op n).map fun k => (k, s1, G)) := by
  unfold rdT
  rw [if_neg (by omega), if_neg (by omega), if_pos h]
  rfl
theorem rdT_atDig (h : hd s = 45 ∨ (48 ≤ hd s ∧ hd s ≤ 57)) : rdT (f + 1) op s G = (match numT s with | none => none | some (n, s1) => if hd s1 ≠ 61 ∨ n < 0 then some ((G.length : Int), s1, G ++ [⟨1, n, bs [], []⟩]) else tupT (rdT f) (wordT s1.tail).1 n (wordT s1.tail).2 G op) := by
  rw [rdT.eq_def]
  simp only
  rw [if_neg (by omega), if_neg (by omega), if_neg (by omega), if_neg (by omega), if_pos h]
  rfl
theorem rdT_atRest (h1 : hd s ≠ 95) (h2 : hd s ≠ 60) (h3 : hd s ≠ 64) (h4 : hd s ≠ 40) (h5 : ¬ (hd s = 45 ∨ (48 ≤ hd s ∧ hd s ≤ 57))) : rdT (f + 1) op s G = if hd (wordT s).2 = 40 ∧ (wordT s).1 ≠ [] then tupT (rdT f) (wordT s).1 (-1) (wordT s).2 G op else some ((G.length : Int), (wordT s).2, G ++ [⟨2, 0, bs (wordT s).1, []⟩]) := by
  rw [rdT.eq_def]
  simp only
  rw [if_neg h1, if_neg h2, if_neg h3, if_neg h4, if_neg h5]
end
theorem numT_at (S : List UInt8) (k : Nat) : numT (S.drop k) = (numOf (wd S k)).map fun n => (n, S.drop (k + wlen S k)) := by
  unfold numT
  rw [wordT_at]
  rfl
theorem wordT_wd (S : List UInt8) (k : Nat) : (wordT (S.drop k)).1 = wd S k ∧ (wordT (S.drop k)).2 = S.drop (k + wlen S k) := by
  rw [wordT_at]; exact ⟨rfl, rfl⟩
/-- A leaf is added: that is a node. -/
theorem node_of_radd {S : List UInt8} {bm b M : Nat} {w0 : World} {f at_ at' : Nat} {rows : List (Nd × Value)} {v : Value} {m : List (Int × Int)} {n : Nd} {w wa w' : World} {e : Ending}
    (hrd : rdT f (look m) (S.drop at_) (rows.map (·.1)) = some ((rows.length : Int), S.drop at', rows.map (·.1) ++ [n])) (hat : at' ≤ S.length) (ch : ChgS (RMay bm b v) w wa) (hp : RAddPost S bm b M w0 at' rows v m n wa e w') : RNodePost S bm b M w0 f at_ rows v m w e w' := by
  obtain ⟨rfl, v', st, ch', blk⟩ := hp
  refine ⟨ch.trans ch' fun i hi h => h, .inr ⟨_, _, _, at', _, v', m, hrd, rfl, hat, rfl, st, by simp, fun _ => rfl, by simp, ?_, ?_⟩⟩
  · exact blk.imp id fun h g hg => by have := h g hg; have := ch.size; omega
  · intro r hr g hg
    simp at hr
    rw [hr] at hg
    simp [Value.ownBlock] at hg
/-- A tuple is read: that is a node. -/
theorem node_of_rtup {S : List UInt8} {bm b M : Nat} {w0 : World} {f at_ at1 : Nat} {L : List UInt8} {no : Int} {rows : List (Nd × Value)} {v : Value} {m : List (Int × Int)} {w wa w' : World} {e : Ending}
    (hrd : rdT (f + 1) (look m) (S.drop at_) (rows.map (·.1)) = tupT (rdT f) L no (S.drop at1) (rows.map (·.1)) (look m)) (ch : ChgS (RMay bm b v) w wa) (hp : RTupPost S bm b M w0 f at1 L no rows v m wa e w') : RNodePost S bm b M w0 (f + 1) at_ rows v m w e w' := by
  obtain ⟨ch', hp⟩ := hp
  refine ⟨ch.trans ch' fun i hi h => h, ?_⟩
  rcases hp with ⟨h1, h2⟩ | ⟨k, s1, G1, at', rows', v', m', h1, h2, h3, h4, h5, h6, h7, h8, h9, h10⟩
  · exact .inl ⟨hrd.trans h1, h2⟩
  · exact .inr ⟨k, s1, G1, at', rows', v', m', hrd.trans h1, h2, h3, h4, h5, h6, h7, h8, h9.imp id fun h g hg => by have := h g hg; have := ch.size; omega, fun r hr g hg => by have := h10 r hr g hg; have := ch.size; omega⟩
theorem ch_b {bm b : Nat} {v : Value} {w w' : World} (h : ChgS (fun i => i = b) w w') : ChgS (RMay bm b v) w w' := h.mono fun _ _ e => .inl e
theorem extract_tail (l : List UInt8) : (bs l).extract 1 (bs l).size = bs (l.drop 1) := by
  apply ByteArray.ext
  apply Array.ext'
  rw [Go.Lib.extract_data, bs_list, bs_list, bs_size]
  rw [List.take_of_length_le]
  simp
theorem wlen_pos {S : List UInt8} {k : Nat} (h : hd (S.drop k) = 95) : 1 ≤ wlen S k := by
  have hlt := hd_pos_lt (S := S) (k := k) (by omega)
  rw [wlen_eq, if_neg (by omega)]
  have e : hd (S.drop k) = (S[k]).toNat := by rw [drop_cons hlt]; rfl
  have : letB S[k] = true := by
    have h2 : (S[k]).toNat = 95 := by omega
    simp [letB, h2, isLetterN]
  rw [lets_step hlt this]
  omega
section
variable (S : List UInt8) (hS : S.length ≤ 4000) (bm b M : Nat) (w0 : World) (ok : RdOk bm b M w0) (hg : Gl w0) (f : Nat) (IH : RNodeC S bm b M w0 f)
  (at_ : Nat) (rows : List (Nd × Value)) (v : Value) (m : List (Int × Int)) (w : World) (h : RdS S bm b M w0 w at_ rows v m) (ha : at_ ≤ S.length) (hf : S.length - at_ < f + 1) (hroom : rows.length + (S.length - at_) ≤ 4001)
include hS ok hg IH h ha hf hroom
set_option maxRecDepth 100000 in
set_option maxHeartbeats 2000000 in
theorem rnode_95 (hh : hd (S.drop at_) = 95) : Calls Tryz.prog 59 #[.pointer (some ⟨b, 0, none⟩)] w (RNodePost S bm b M w0 (f + 1) at_ rows v m w) := by
  have hrd := rdT_at95 (f := f) (op := look m) (G := rows.map (·.1)) hh
  rw [(wordT_wd S at_).1, (wordT_wd S at_).2] at hrd
  have hwl := wlen_le S at_ ha
  have hsz1 : 1 ≤ (bs (wd S at_)).size := by rw [bs_size, wd_length S at_ ha]; exact wlen_pos hh
  have hsz2 : (bs (wd S at_)).size ≤ 4000 := by rw [bs_size, wd_length S at_ ha]; omega
  have HX := Lib.hid (extract_tail (wd S at_))
  have HPK := Lib.hid (peek_any S hS bm b at_ v w h.blk ha)
  have HWR := Lib.hid (fun n => word_reads S hS bm b at_ v (w.drewN n) (h.blk.ext (Ext.of_drewN w n)) ha)
  have HRD := Lib.hid hrd
  have H := Lib.hid h
  have HOK := Lib.hid ok
  have HG := Lib.hid hg
  clear hrd h ok hg IH
  rw [hh] at HPK
  clear hh
  go_enter Tryz.func59, Tryz.ntmps59
  go_wp2_with fail
  refine HPK.out.mono ?_
  rintro e w1 ⟨rfl, n1, rfl⟩
  clear HPK
  go_wp2_with fail
  refine (HWR.out n1).mono ?_
  rintro e w2 ⟨rfl, hb2, hc2⟩
  have hc2' : ChgS (fun i => i = b) w w2 := (ChgS.of_ext (S := fun i => i = b) (Ext.of_drewN w n1)).trans (T := fun i => i = b) hc2 fun _ _ h => h
  have ST2 := Lib.hid (H.out.chgB HOK.out hc2' hb2)
  have HC2 := Lib.hid hc2'
  clear hb2 hc2 hc2' HWR
  go_wp2_with fail
  rw [HX.out]
  refine (atoi_any ((wd S at_).drop 1) (by rw [bs_size] at hsz2; simp; omega) w2 (HG.out.ext ST2.out.ext)).mono ?_
  rintro e w3 ⟨hx, ⟨n, hn, h1, h2, rfl⟩ | ⟨hn, n, N, rfl⟩⟩
  · have ST3 := Lib.hid (ST2.out.of_ext hx)
    have HC3 := Lib.hid (HC2.out.ext hx)
    have HN := Lib.hid hn
    have hne := nilNe
    clear hx hn
    go_wp2_with fail
    refine (radd_any S bm b M w0 HOK.out (at_ + wlen S at_) rows v m ⟨0, n, bs [], []⟩ rfl w3 ST3.out (by omega)).mono ?_
    intro e w4 hp
    have hpost := node_of_radd (by rw [HRD.out, HN.out]; simp) hwl (ch_b HC3.out) hp
    obtain rfl := hp.1
    have HP := Lib.hid hpost
    clear hpost hp
    go_wp2
    go_ret
    exact HP.out
  · have HC3 := Lib.hid (HC2.out.ext hx)
    have HN := Lib.hid hn
    have hne := errNe N
    clear hx hn
    go_wp2
    exact ⟨rfl, ch_b HC3.out, .inl ⟨by rw [HRD.out, HN.out]; rfl, rfl⟩⟩
set_option maxRecDepth 100000 in
set_option maxHeartbeats 2000000 in
theorem rnode_60 (hh : hd (S.drop at_) = 60) : Calls Tryz.prog 59 #[.pointer (some ⟨b, 0, none⟩)] w (RNodePost S bm b M w0 (f + 1) at_ rows v m w) := by
  have hlt := hd_pos_lt (S := S) (k := at_) (by omega)
  have hrd := rdT_at60 (f := f) (op := look m) (G := rows.map (·.1)) hh
  rw [List.tail_drop, (wordT_wd S (at_ + 1)).1, (wordT_wd S (at_ + 1)).2, List.tail_drop, numT_at] at hrd
  have hwl := wlen_le S (at_ + 1) (by omega)
  have hat4 : at_ ≤ 4000 := by omega
  have HPK := Lib.hid (peek_any S hS bm b at_ v w h.blk ha)
  have HRD := Lib.hid hrd
  have H := Lib.hid h
  have HOK := Lib.hid ok
  have HG := Lib.hid hg
  have HS := Lib.hid hS
  have c1 := h.blk.cells.2.1
  have cz := h.blk.cells.2.2.2.2 1
  clear hrd h ok hg IH hS
  rw [hh] at HPK
  clear hh
  go_enter Tryz.func59, Tryz.ntmps59
  go_wp2_with fail
  refine HPK.out.mono ?_
  rintro e w1 ⟨rfl, n1, rfl⟩
  clear HPK
  have C1 : ChgS (fun i => i = b) w ((w.drewN n1).setCell ⟨b, 1, none⟩ (.int .i64 ((at_ : Int) + 1))) := (ChgS.of_ext (S := fun i => i = b) (Ext.of_drewN w n1)).set (.inl rfl) _ _
  have ST1 := Lib.hid (H.out.chgB HOK.out C1 ((H.out.blk.ext (Ext.of_drewN w n1)).setAtI (at_ + 1) _ (by simp)))
  have HC1 := Lib.hid C1
  clear C1
  go_wp2_with fail
  refine (word_reads S HS.out bm b (at_ + 1) v _ ST1.out.blk (by omega)).mono ?_
  rintro e w2 ⟨rfl, hb2, hc2⟩
  have ST2 := Lib.hid (ST1.out.chgB HOK.out hc2 hb2)
  have HC2 := Lib.hid (HC1.out.trans (T := fun i => i = b) hc2 fun _ _ h => h)
  clear hb2 hc2 c1 cz
  go_wp2_with fail
  refine (eat_any S HS.out bm b (at_ + 1 + wlen S (at_ + 1)) v _ ST2.out.blk hwl 32 (by omega)).mono ?_
  rintro e w3 ⟨hc3, ⟨h32, rfl, hb3, hat3⟩ | ⟨h32, rfl⟩⟩
  · have ST3 := Lib.hid (ST2.out.chgB HOK.out hc3 hb3)
    have HC3 := Lib.hid (HC2.out.trans (T := fun i => i = b) hc3 fun _ _ h => h)
    have H32 := Lib.hid h32
    have hwl3 := wlen_le S (at_ + 1 + wlen S (at_ + 1) + 1) hat3
    clear hc3 hb3 h32
    go_wp2_with fail
    refine (number_any S HS.out bm b (at_ + 1 + wlen S (at_ + 1) + 1) v w0 w3 HG.out ST3.out.ext HOK.out.hb.1 ST3.out.blk hat3).mono ?_
    rintro e w4 ⟨hc4, ⟨n, hn, h1, h2, rfl, hb4⟩ | ⟨hn, rfl⟩⟩
    · have ST4 := Lib.hid (ST3.out.chgB HOK.out hc4 hb4)
      have HC4 := Lib.hid (HC3.out.trans (T := fun i => i = b) hc4 fun _ _ h => h)
      have HN := Lib.hid hn
      clear hc4 hb4 hn
      go_wp2_with fail
      refine (eat_any S HS.out bm b (at_ + 1 + wlen S (at_ + 1) + 1 + wlen S (at_ + 1 + wlen S (at_ + 1) + 1)) v _ ST4.out.blk hwl3 62 (by omega)).mono ?_
      rintro e w5 ⟨hc5, ⟨h62, rfl, hb5, hat5⟩ | ⟨h62, rfl⟩⟩
      · have ST5 := Lib.hid (ST4.out.chgB HOK.out hc5 hb5)
        have HC5 := Lib.hid (HC4.out.trans (T := fun i => i = b) hc5 fun _ _ h => h)
        have H62 := Lib.hid h62
        clear hc5 hb5 h62
        go_wp2_with fail
        refine (radd_any S bm b M w0 HOK.out (at_ + 1 + wlen S (at_ + 1) + 1 + wlen S (at_ + 1 + wlen S (at_ + 1) + 1) + 1) rows v m ⟨4, n, bs (wd S (at_ + 1)), []⟩ rfl w5 ST5.out (by omega)).mono ?_
        intro e w6 hp
        have hpost := node_of_radd (f := f + 1) (at_ := at_) (by
          rw [HRD.out, if_pos H32.out, HN.out]
          simp only [Option.map_some]
          rw [if_pos H62.out, List.tail_drop]
          simp) hat5 (ch_b HC5.out) hp
        obtain rfl := hp.1
        have HP := Lib.hid hpost
        clear hpost hp
        go_wp2
        go_ret
        exact HP.out
      · refine ⟨rfl, ch_b (HC4.out.trans (T := fun i => i = b) hc5 fun _ _ h => h), .inl ⟨?_, rfl⟩⟩
        rw [HRD.out, if_pos H32.out, HN.out]
        simp only [Option.map_some]
        rw [if_neg h62]
    · refine ⟨rfl, ch_b (HC3.out.trans (T := fun i => i = b) hc4 fun _ _ h => h), .inl ⟨?_, rfl⟩⟩
      rw [HRD.out, if_pos H32.out, hn]
      rfl
  · refine ⟨rfl, ch_b (HC2.out.trans (T := fun i => i = b) hc3 fun _ _ h => h), .inl ⟨?_, rfl⟩⟩
    rw [HRD.out, if_neg h32]
set_option maxRecDepth 100000 in
set_option maxHeartbeats 2000000 in
theorem rnode_40 (hh : hd (S.drop at_) = 40) : Calls Tryz.prog 59 #[.pointer (some ⟨b, 0, none⟩)] w (RNodePost S bm b M w0 (f + 1) at_ rows v m w) := by
  have hrd := rdT_pair (f := f) (op := look m) (G := rows.map (·.1)) hh
  have HPK := Lib.hid (peek_any S hS bm b at_ v w h.blk ha)
  have HRD := Lib.hid hrd
  have H := Lib.hid h
  have HOK := Lib.hid ok
  have HIH := Lib.hid IH
  have HS := Lib.hid hS
  clear hrd h ok hg IH hS
  rw [hh] at HPK
  clear hh
  go_enter Tryz.func59, Tryz.ntmps59
  go_wp2_with fail
  refine HPK.out.mono ?_
  rintro e w1 ⟨rfl, n1, rfl⟩
  clear HPK
  have ST1 := Lib.hid (H.out.of_ext (Ext.of_drewN w n1))
  go_wp2_with fail
  refine (rtuple_any S HS.out bm b M w0 HOK.out f HIH.out at_ rows v m _ ST1.out ha (by omega) hroom [] (-1) (.inl rfl)).mono ?_
  intro e w2 hp
  have hpost := node_of_rtup HRD.out (ChgS.of_ext (Ext.of_drewN w n1)) hp
  clear hp
  rcases hpost with ⟨hc, ⟨h1, rfl⟩ | ⟨k, s1, G1, at', rows', v', m', h1, rfl, h3⟩⟩
  · exact ⟨rfl, hc, .inl ⟨h1, rfl⟩⟩
  · have HP := Lib.hid (show RNodePost S bm b M w0 (f + 1) at_ rows v m w _ w2 from ⟨hc, .inr ⟨k, s1, G1, at', rows', v', m', h1, rfl, h3⟩⟩)
    clear hc h1 h3
    go_wp2
    go_ret
    exact HP.out
set_option maxRecDepth 100000 in
set_option maxHeartbeats 4000000 in
theorem rnode_dig (hh : hd (S.drop at_) = 45 ∨ (48 ≤ hd (S.drop at_) ∧ hd (S.drop at_) ≤ 57)) : Calls Tryz.prog 59 #[.pointer (some ⟨b, 0, none⟩)] w (RNodePost S bm b M w0 (f + 1) at_ rows v m w) := by
  have hlt := hd_pos_lt (S := S) (k := at_) (by omega)
  have hrd := rdT_atDig (f := f) (op := look m) (G := rows.map (·.1)) hh
  rw [numT_at] at hrd
  have hwl := wlen_le S at_ ha
  have hat4 : at_ ≤ 4000 := by omega
  have hat5 : at_ + wlen S at_ ≤ 4000 := by omega
  have HPK := Lib.hid (peek_any S hS bm b at_ v w h.blk ha)
  have HRD := Lib.hid hrd
  have H := Lib.hid h
  have HOK := Lib.hid ok
  have HG := Lib.hid hg
  have HIH := Lib.hid IH
  have HS := Lib.hid hS
  clear hrd h ok hg IH hS
  obtain ⟨c, hc⟩ : ∃ c, hd (S.drop at_) = c := ⟨_, rfl⟩
  rw [hc] at HPK hh
  clear hc
  have d95 : ((c : Int) == 95) = false := by simp; omega
  have d60 : ((c : Int) == 60) = false := by simp; omega
  have d64 : ((c : Int) == 64) = false := by simp; omega
  have d40 : ((c : Int) == 40) = false := by simp; omega
  by_cases h45 : c = 45
  case' pos =>
    have d45 : ((c : Int) == 45) = true := by simp; omega
  case' neg =>
    have d45 : ((c : Int) == 45) = false := by simp; omega
    have hge : decide ((48 : Int) ≤ (c : Int)) = true := by simp; omega
    have hle : decide ((c : Int) ≤ 57) = true := by simp; omega
  all_goals
    clear hh h45
    go_enter Tryz.func59, Tryz.ntmps59
    go_wp2_with fail
    refine HPK.out.mono ?_
    rintro e w1 ⟨rfl, n1, rfl⟩
    clear HPK
    have ST1 := Lib.hid (H.out.of_ext (Ext.of_drewN w n1))
    have HC1 : Hid (ChgS (fun i => i = b) w (w.drewN n1)) := Lib.hid (ChgS.of_ext (Ext.of_drewN w n1))
    go_wp2_with fail
    refine (number_any S HS.out bm b at_ v w0 _ HG.out ST1.out.ext HOK.out.hb.1 ST1.out.blk ha).mono ?_
    rintro e w2 ⟨hc2, ⟨n, hn, h1, h2, rfl, hb2⟩ | ⟨hn, rfl⟩⟩
    · have ST2 := Lib.hid (ST1.out.chgB HOK.out hc2 hb2)
      have HC2 := Lib.hid (HC1.out.trans (T := fun i => i = b) hc2 fun _ _ h => h)
      have HN := Lib.hid hn
      have HPK2 := Lib.hid (peek_any S HS.out bm b (at_ + wlen S at_) v w2 (ST1.out.chgB HOK.out hc2 hb2).blk hwl)
      clear hc2 hb2 hn
      by_cases h61 : hd (S.drop (at_ + wlen S at_)) ≠ 61 ∨ n < 0
      · have H61 := Lib.hid h61
        have hsp : ((hd (S.drop (at_ + wlen S at_)) : Int) != 61) = true ∨ ((hd (S.drop (at_ + wlen S at_)) : Int) != 61) = false ∧ decide (n < 0) = true := by
          rcases h61 with h | h
          · left; simp; omega
          · by_cases h' : hd (S.drop (at_ + wlen S at_)) = 61
            · right; exact ⟨by simp [h'], by simpa using h⟩
            · left; simp; omega
        have HSP := Lib.hid hsp
        clear h61 hsp
        go_wp2_with fail
        refine HPK2.out.mono ?_
        rintro e w3 ⟨rfl, n3, rfl⟩
        have ST3 := Lib.hid (ST2.out.of_ext (Ext.of_drewN w2 n3))
        have HC3 := Lib.hid (HC2.out.drewN n3)
        clear HPK2
        rcases HSP.out with hne | ⟨hne, hneg⟩
        all_goals
          go_wp2_with fail
          refine (radd_any S bm b M w0 HOK.out (at_ + wlen S at_) rows v m ⟨1, n, bs [], []⟩ rfl _ ST3.out (by omega)).mono ?_
          intro e w4 hp
          have hpost := node_of_radd (f := f + 1) (at_ := at_) (by
            rw [HRD.out, HN.out]
            simp only [Option.map_some]
            rw [if_pos H61.out]
            simp) hwl (ch_b HC3.out) hp
          obtain rfl := hp.1
          have HP := Lib.hid hpost
          clear hpost hp
          go_wp2
          go_ret
          exact HP.out
      · have hp61 : hd (S.drop (at_ + wlen S at_)) = 61 := by omega
        have hn0 : 0 ≤ n := by omega
        have hlt2 := hd_pos_lt (S := S) (k := at_ + wlen S at_) (by omega)
        have hne : ((hd (S.drop (at_ + wlen S at_)) : Int) != 61) = false := by simp [hp61]
        have hneg : decide (n < 0) = false := by simp; omega
        have H61 := Lib.hid h61
        have hwl2 := wlen_le S (at_ + wlen S at_ + 1) (by omega)
        have c1 := ST2.out.blk.cells.2.1
        have cz := ST2.out.blk.cells.2.2.2.2 1
        clear h61 hp61
        go_wp2_with fail
        refine HPK2.out.mono ?_
        rintro e w3 ⟨rfl, n3, rfl⟩
        clear HPK2
        have C3 : ChgS (fun i => i = b) w2 ((w2.drewN n3).setCell ⟨b, 1, none⟩ (.int .i64 (((at_ + wlen S at_ : Nat) : Int) + 1))) := (ChgS.of_ext (S := fun i => i = b) (Ext.of_drewN w2 n3)).set (.inl rfl) _ _
        have ST3 := Lib.hid (ST2.out.chgB HOK.out C3 ((ST2.out.blk.ext (Ext.of_drewN w2 n3)).setAtI (at_ + wlen S at_ + 1) _ (by simp)))
        have HC3 := Lib.hid (HC2.out.trans (T := fun i => i = b) C3 fun _ _ h => h)
        clear C3
        go_wp2_with fail
        refine (word_reads S HS.out bm b (at_ + wlen S at_ + 1) v _ (by first | exact ST3.out.blk | (push_cast at ST3; exact ST3.out.blk)) (by omega)).mono ?_
        rintro e w4 ⟨rfl, hb4, hc4⟩
        have ST4 := Lib.hid (ST3.out.chgB HOK.out hc4 hb4)
        have HC4 := Lib.hid (HC3.out.trans (T := fun i => i = b) hc4 fun _ _ h => h)
        clear hb4 hc4 c1 cz
        go_wp2_with fail
        refine (rtuple_any S HS.out bm b M w0 HOK.out f HIH.out (at_ + wlen S at_ + 1 + wlen S (at_ + wlen S at_ + 1)) rows v m w4 ST4.out hwl2 (by omega) (by omega) (wd S (at_ + wlen S at_ + 1)) n (.inr ⟨hn0, h2⟩)).mono ?_
        intro e w5 hp
        have hpost := node_of_rtup (f := f) (at_ := at_) (by
          rw [HRD.out, HN.out]
          simp only [Option.map_some]
          rw [if_neg H61.out, List.tail_drop, (wordT_wd S _).1, (wordT_wd S _).2]) (ch_b HC4.out) hp
        clear hp
        rcases hpost with ⟨hc, ⟨h1, rfl⟩ | ⟨k, s1, G1, at', rows', v', m', h1, rfl, h3⟩⟩
        · exact ⟨rfl, hc, .inl ⟨h1, rfl⟩⟩
        · have HP := Lib.hid (show RNodePost S bm b M w0 (f + 1) at_ rows v m w _ w5 from ⟨hc, .inr ⟨k, s1, G1, at', rows', v', m', h1, rfl, h3⟩⟩)
          clear hc h1 h3
          go_wp2
          go_ret
          exact HP.out
    · refine ⟨rfl, ch_b (HC1.out.trans (T := fun i => i = b) hc2 fun _ _ h => h), .inl ⟨?_, rfl⟩⟩
      rw [HRD.out, hn]
      rfl
set_option maxRecDepth 100000 in
set_option maxHeartbeats 4000000 in
theorem rnode_rest (hh : hd (S.drop at_) ≠ 95 ∧ hd (S.drop at_) ≠ 60 ∧ hd (S.drop at_) ≠ 64 ∧ hd (S.drop at_) ≠ 40 ∧ ¬ (hd (S.drop at_) = 45 ∨ (48 ≤ hd (S.drop at_) ∧ hd (S.drop at_) ≤ 57))) : Calls Tryz.prog 59 #[.pointer (some ⟨b, 0, none⟩)] w (RNodePost S bm b M w0 (f + 1) at_ rows v m w) := by
  have hrd := rdT_atRest (f := f) (op := look m) (G := rows.map (·.1)) hh.1 hh.2.1 hh.2.2.1 hh.2.2.2.1 hh.2.2.2.2
  rw [(wordT_wd S at_).1, (wordT_wd S at_).2] at hrd
  have hwl := wlen_le S at_ ha
  have hat4 : at_ ≤ 4000 := by omega
  have HPK := Lib.hid (peek_any S hS bm b at_ v w h.blk ha)
  have HRD := Lib.hid hrd
  have H := Lib.hid h
  have HOK := Lib.hid ok
  have HG := Lib.hid hg
  have HIH := Lib.hid IH
  have HS := Lib.hid hS
  clear hrd h ok hg IH hS
  obtain ⟨c, hc⟩ : ∃ c, hd (S.drop at_) = c := ⟨_, rfl⟩
  rw [hc] at HPK hh
  clear hc
  have d95 : ((c : Int) == 95) = false := by simp; omega
  have d60 : ((c : Int) == 60) = false := by simp; omega
  have d64 : ((c : Int) == 64) = false := by simp; omega
  have d40 : ((c : Int) == 40) = false := by simp; omega
  have d45 : ((c : Int) == 45) = false := by simp; omega
  have hdd : (decide ((48 : Int) ≤ (c : Int)) = false) ∨ (decide ((48 : Int) ≤ (c : Int)) = true ∧ decide ((c : Int) ≤ 57) = false) := by
    by_cases h48 : 48 ≤ c
    · right; constructor <;> simp <;> omega
    · left; simp; omega
  clear hh
  rcases hdd with hge | ⟨hge, hle⟩
  all_goals
    go_enter Tryz.func59, Tryz.ntmps59
    go_wp2_with fail
    refine HPK.out.mono ?_
    rintro e w1 ⟨rfl, n1, rfl⟩
    clear HPK
    have ST1 := Lib.hid (H.out.of_ext (Ext.of_drewN w n1))
    have HC1 : Hid (ChgS (fun i => i = b) w (w.drewN n1)) := Lib.hid (ChgS.of_ext (Ext.of_drewN w n1))
    go_wp2_with fail
    refine (word_reads S HS.out bm b at_ v _ ST1.out.blk ha).mono ?_
    rintro e w2 ⟨rfl, hb2, hc2⟩
    have ST2 := Lib.hid (ST1.out.chgB HOK.out hc2 hb2)
    have HC2 := Lib.hid (HC1.out.trans (T := fun i => i = b) hc2 fun _ _ h => h)
    have HPK2 := Lib.hid (peek_any S HS.out bm b (at_ + wlen S at_) v w2 (ST1.out.chgB HOK.out hc2 hb2).blk hwl)
    clear hc2 hb2
    by_cases h40 : hd (S.drop (at_ + wlen S at_)) = 40 ∧ wd S at_ ≠ []
    · have H40 := Lib.hid h40
      have hq : ((hd (S.drop (at_ + wlen S at_)) : Int) == 40) = true := by simp [h40.1]
      have hLe : (bs (wd S at_)).toList.isEmpty = false := by
        rw [Go.Lib.toList_data, bs_list]
        cases hx : wd S at_ with
        | nil => exact absurd hx h40.2
        | cons _ _ => rfl
      have hlt2 := hd_pos_lt (S := S) (k := at_ + wlen S at_) (by omega)
      clear h40
      go_wp2_with fail
      refine HPK2.out.mono ?_
      rintro e w3 ⟨rfl, n3, rfl⟩
      have ST3 := Lib.hid (ST2.out.of_ext (Ext.of_drewN w2 n3))
      have HC3 := Lib.hid (HC2.out.drewN n3)
      clear HPK2
      go_wp2_with fail
      refine (rtuple_any S HS.out bm b M w0 HOK.out f HIH.out (at_ + wlen S at_) rows v m _ ST3.out hwl (by omega) (by omega) (wd S at_) (-1) (.inl rfl)).mono ?_
      intro e w5 hp
      have hpost := node_of_rtup (f := f) (at_ := at_) (by rw [HRD.out, if_pos H40.out]) (ch_b HC3.out) hp
      clear hp
      rcases hpost with ⟨hc, ⟨h1, rfl⟩ | ⟨k, s1, G1, at', rows', v', m', h1, rfl, h3⟩⟩
      · exact ⟨rfl, hc, .inl ⟨h1, rfl⟩⟩
      · have HP := Lib.hid (show RNodePost S bm b M w0 (f + 1) at_ rows v m w _ w5 from ⟨hc, .inr ⟨k, s1, G1, at', rows', v', m', h1, rfl, h3⟩⟩)
        clear hc h1 h3
        go_wp2
        go_ret
        exact HP.out
    · have H40 := Lib.hid h40
      have hsp : ((hd (S.drop (at_ + wlen S at_)) : Int) == 40) = false ∨ ((hd (S.drop (at_ + wlen S at_)) : Int) == 40) = true ∧ (bs (wd S at_)).toList.isEmpty = true := by
        by_cases h' : hd (S.drop (at_ + wlen S at_)) = 40
        · right
          refine ⟨by simp [h'], ?_⟩
          have : wd S at_ = [] := Classical.byContradiction fun hx => h40 ⟨h', hx⟩
          rw [Go.Lib.toList_data, bs_list, this]; rfl
        · left; simp; omega
      have HSP := Lib.hid hsp
      clear h40 hsp
      go_wp2_with fail
      refine HPK2.out.mono ?_
      rintro e w3 ⟨rfl, n3, rfl⟩
      have ST3 := Lib.hid (ST2.out.of_ext (Ext.of_drewN w2 n3))
      have HC3 := Lib.hid (HC2.out.drewN n3)
      clear HPK2
      rcases HSP.out with hq | ⟨hq, hLe⟩
      all_goals
        go_wp2_with fail
        refine (radd_any S bm b M w0 HOK.out (at_ + wlen S at_) rows v m ⟨2, 0, bs (wd S at_), []⟩ rfl _ ST3.out (by omega)).mono ?_
        intro e w4 hp
        have hpost := node_of_radd (f := f + 1) (at_ := at_) (by
          rw [HRD.out, if_neg H40.out]
          simp) hwl (ch_b HC3.out) hp
        obtain rfl := hp.1
        have HP := Lib.hid hpost
        clear hpost hp
        go_wp2
        go_ret
        exact HP.out
set_option maxRecDepth 100000 in
set_option maxHeartbeats 4000000 in
theorem rnode_64 (hh : hd (S.drop at_) = 64) : Calls Tryz.prog 59 #[.pointer (some ⟨b, 0, none⟩)] w (RNodePost S bm b M w0 (f + 1) at_ rows v m w) := by
  have hlt := hd_pos_lt (S := S) (k := at_) (by omega)
  have hrd := rdT_at64 (f := f) (op := look m) (G := rows.map (·.1)) hh
  rw [List.tail_drop, numT_at] at hrd
  have hwl := wlen_le S (at_ + 1) (by omega)
  have hat4 : at_ ≤ 4000 := by omega
  have HPK := Lib.hid (peek_any S hS bm b at_ v w h.blk ha)
  have HRD := Lib.hid hrd
  have H := Lib.hid h
  have HOK := Lib.hid ok
  have HG := Lib.hid hg
  have HS := Lib.hid hS
  have c1 := h.blk.cells.2.1
  have cz := h.blk.cells.2.2.2.2 1
  clear hrd h ok hg IH hS
  rw [hh] at HPK
  clear hh
  go_enter Tryz.func59, Tryz.ntmps59
  go_wp2_with fail
  refine HPK.out.mono ?_
  rintro e w1 ⟨rfl, n1, rfl⟩
  clear HPK
  have C1 : ChgS (fun i => i = b) w ((w.drewN n1).setCell ⟨b, 1, none⟩ (.int .i64 ((at_ : Int) + 1))) := (ChgS.of_ext (S := fun i => i = b) (Ext.of_drewN w n1)).set (.inl rfl) _ _
  have ST1 := Lib.hid (H.out.chgB HOK.out C1 ((H.out.blk.ext (Ext.of_drewN w n1)).setAtI (at_ + 1) _ (by simp)))
  have HC1 := Lib.hid C1
  clear C1
  go_wp2
  generalize (w.drewN n1).setCell ⟨b, 1, none⟩ (.int .i64 ((at_ : Int) + 1)) = w1 at ST1 HC1 ⊢
  have c4a := ST1.out.blk.cells.2.2.2.1
  clear c1 cz
  refine wp_region_any (by kernel_rfl) ?_
  change wpAny _ _ _ _ _ _ _ (World.drew _)
  refine wpAny_take (i := 0) (v := ?_) rfl (by kernel_rfl) (by kernel_rfl) (by kernel_rfl) (fun _ _ _ h => h) (Or.inl ⟨by rfl, ?_⟩) ?_
  rotate_left
  · (intro w; go_simp) <;> with_reducible rfl
  refine wpAny_take (i := 1) (v := ?_) rfl (by kernel_rfl) (by kernel_rfl) (by kernel_rfl) (fun _ _ _ h => h) (Or.inl ⟨by rfl, ?_⟩) ?_
  rotate_left
  · (intro w; go_simp) <;> with_reducible rfl
  refine wpAny_take (i := 2) (v := ?_) rfl (by kernel_rfl) (by kernel_rfl) (by kernel_rfl) (fun _ _ _ h => h) (Or.inl ⟨by rfl, ?_⟩) ?_
  rotate_left
  · (intro w; go_simp) <;> with_reducible rfl
  refine wpAny_take (i := 4) (v := ?_) rfl (by kernel_rfl) (by kernel_rfl) (by kernel_rfl) (fun _ _ _ h => h) (Or.inl ⟨by rfl, ?_⟩) ?_
  rotate_left
  · (intro w; go_simp) <;> with_reducible rfl
  refine wpAny_ready (rs := [3, 5]) (by kernel_rfl) (by simp) ?_
  refine AllReady.cons rfl (fun K hK => ?_) ?_
  · go_simp
    refine hK _ _ ?_
    clear hK K
    refine wpAny_ready (rs := [5]) (by kernel_rfl) (by simp) ?_
    refine AllReady.cons rfl (fun K hK => ?_) ?_
    · go_simp
      refine (number_any S HS.out bm b (at_ + 1) v w0 _ HG.out (ST1.out.of_ext (Ext.rfl' _).drew).ext HOK.out.hb.1 (ST1.out.of_ext (Ext.rfl' _).drew).blk (by omega)).mono ?_
      rintro e w4 ⟨hc4, ⟨n, hn, h1, h2, rfl, hb4⟩ | ⟨hn, rfl⟩⟩
      · have ST4 := Lib.hid ((ST1.out.of_ext (Ext.rfl' _).drew).chgB HOK.out hc4 hb4)
        have HC4 := Lib.hid ((HC1.out.drew).trans (T := fun i => i = b) hc4 fun _ _ h => h)
        have HN := Lib.hid hn
        have c4b := ST4.out.blk.cells.2.2.2.1
        have hfits : Fits n := fits_of h1 h2
        have hlk := ST4.out.map.lookup kl3 und82 zero3 hfits true
        clear hc4 hb4 hn
        refine hK _ _ ?_
        clear hK K
        cases hln : look m n with
        | some u =>
          rw [hln] at hlk
          have hrun : (Instr.lookup 82 (.map (some bm)) (.int .i64 n) true).run Tryz.prog w4 = .ok (.tuple #[.int .i64 u, .bool true]) w4 := hlk
          have HLN := Lib.hid hln
          clear hlk hln
          refine wpAny_ready (rs := [6]) (by kernel_rfl) (by simp) ?_
          refine AllReady.cons rfl (fun K hK => ?_) ?_
          · go_simp
            refine hK _ _ ?_
            clear hK K hrun c4b
            refine wpAny_take (i := 7) (v := ?_) rfl (by kernel_rfl) (by kernel_rfl) (by kernel_rfl) (fun _ _ _ h => h) (Or.inl ⟨by rfl, ?_⟩) ?_
            rotate_left
            · (intro w; go_simp) <;> with_reducible rfl
            refine wpAny_take (i := 8) (v := ?_) rfl (by kernel_rfl) (by kernel_rfl) (by kernel_rfl) (fun _ _ _ h => h) (Or.inl ⟨by rfl, ?_⟩) ?_
            rotate_left
            · (intro w; go_simp) <;> with_reducible rfl
            refine wpAny_take (i := 9) (v := ?_) rfl (by kernel_rfl) (by kernel_rfl) (by kernel_rfl) (fun _ _ _ h => h) (Or.inl ⟨by rfl, ?_⟩) ?_
            rotate_left
            · (intro w; go_simp) <;> with_reducible rfl
            refine wpAny_take (i := 10) (v := ?_) rfl (by kernel_rfl) (by kernel_rfl) (by kernel_rfl) (fun _ _ _ h => h) (Or.inl ⟨by rfl, ?_⟩) ?_
            rotate_left
            · (intro w; go_simp) <;> with_reducible rfl
            refine wpAny_take (i := 11) (v := ?_) rfl (by kernel_rfl) (by kernel_rfl) (by kernel_rfl) (fun _ _ _ h => h) (Or.inl ⟨by rfl, ?_⟩) ?_
            rotate_left
            · (intro w; go_simp) <;> with_reducible rfl
            refine wpAny_done (by kernel_rfl) ?_ _
            go_wp2
            go_ret
            refine ⟨ch_b HC4.out, .inr ⟨u, _, _, at_ + 1 + wlen S (at_ + 1), rows, v, m, ?_, rfl, hwl, rfl, ST4.out, rfl, fun _ => rfl, List.take_length, .inl rfl, fun r hr => by simp at hr⟩⟩
            rw [HRD.out, HN.out]
            simp [HLN.out]
          · exact AllReady.nil
        | none =>
          rw [hln] at hlk
          have hrun : (Instr.lookup 82 (.map (some bm)) (.int .i64 n) true).run Tryz.prog w4 = .ok (.tuple #[.int .i64 0, .bool false]) w4 := hlk
          have HLN := Lib.hid hln
          clear hlk hln
          refine wpAny_ready (rs := [6]) (by kernel_rfl) (by simp) ?_
          refine AllReady.cons rfl (fun K hK => ?_) ?_
          · go_simp
            refine hK _ _ ?_
            clear hK K hrun c4b
            refine wpAny_take (i := 7) (v := ?_) rfl (by kernel_rfl) (by kernel_rfl) (by kernel_rfl) (fun _ _ _ h => h) (Or.inl ⟨by rfl, ?_⟩) ?_
            rotate_left
            · (intro w; go_simp) <;> with_reducible rfl
            refine wpAny_take (i := 8) (v := ?_) rfl (by kernel_rfl) (by kernel_rfl) (by kernel_rfl) (fun _ _ _ h => h) (Or.inl ⟨by rfl, ?_⟩) ?_
            rotate_left
            · (intro w; go_simp) <;> with_reducible rfl
            refine wpAny_take (i := 9) (v := ?_) rfl (by kernel_rfl) (by kernel_rfl) (by kernel_rfl) (fun _ _ _ h => h) (Or.inl ⟨by rfl, ?_⟩) ?_
            rotate_left
            · (intro w; go_simp) <;> with_reducible rfl
            refine wpAny_take (i := 10) (v := ?_) rfl (by kernel_rfl) (by kernel_rfl) (by kernel_rfl) (fun _ _ _ h => h) (Or.inl ⟨by rfl, ?_⟩) ?_
            rotate_left
            · (intro w; go_simp) <;> with_reducible rfl
            refine wpAny_take (i := 11) (v := ?_) rfl (by kernel_rfl) (by kernel_rfl) (by kernel_rfl) (fun _ _ _ h => h) (Or.inl ⟨by rfl, ?_⟩) ?_
            rotate_left
            · (intro w; go_simp) <;> with_reducible rfl
            refine wpAny_done (by kernel_rfl) ?_ _
            go_wp2
            refine ⟨rfl, ch_b HC4.out, .inl ⟨?_, rfl⟩⟩
            rw [HRD.out, HN.out]
            simp [HLN.out]
          · exact AllReady.nil
      · refine ⟨rfl, ch_b ((HC1.out.drew).trans (T := fun i => i = b) hc4 fun _ _ h => h), .inl ⟨?_, rfl⟩⟩
        rw [HRD.out, hn]
        rfl
    · exact AllReady.nil
  · refine AllReady.cons rfl (fun K hK => ?_) ?_
    · go_simp
      refine (number_any S HS.out bm b (at_ + 1) v w0 _ HG.out (ST1.out.of_ext (Ext.rfl' _).drew).ext HOK.out.hb.1 (ST1.out.of_ext (Ext.rfl' _).drew).blk (by omega)).mono ?_
      rintro e w4 ⟨hc4, ⟨n, hn, h1, h2, rfl, hb4⟩ | ⟨hn, rfl⟩⟩
      · have ST4 := Lib.hid ((ST1.out.of_ext (Ext.rfl' _).drew).chgB HOK.out hc4 hb4)
        have HC4 := Lib.hid ((HC1.out.drew).trans (T := fun i => i = b) hc4 fun _ _ h => h)
        have HN := Lib.hid hn
        have c4b := ST4.out.blk.cells.2.2.2.1
        have hfits : Fits n := fits_of h1 h2
        have hlk := ST4.out.map.lookup kl3 und82 zero3 hfits true
        clear hc4 hb4 hn
        refine hK _ _ ?_
        clear hK K
        refine wpAny_ready (rs := [3]) (by kernel_rfl) (by simp) ?_
        refine AllReady.cons rfl (fun K hK => ?_) ?_
        · go_simp
          refine hK _ _ ?_
          clear hK K
          cases hln : look m n with
          | some u =>
            rw [hln] at hlk
            have hrun : (Instr.lookup 82 (.map (some bm)) (.int .i64 n) true).run Tryz.prog w4 = .ok (.tuple #[.int .i64 u, .bool true]) w4 := hlk
            have HLN := Lib.hid hln
            clear hlk hln
            refine wpAny_ready (rs := [6]) (by kernel_rfl) (by simp) ?_
            refine AllReady.cons rfl (fun K hK => ?_) ?_
            · go_simp
              refine hK _ _ ?_
              clear hK K hrun c4b
              refine wpAny_take (i := 7) (v := ?_) rfl (by kernel_rfl) (by kernel_rfl) (by kernel_rfl) (fun _ _ _ h => h) (Or.inl ⟨by rfl, ?_⟩) ?_
              rotate_left
              · (intro w; go_simp) <;> with_reducible rfl
              refine wpAny_take (i := 8) (v := ?_) rfl (by kernel_rfl) (by kernel_rfl) (by kernel_rfl) (fun _ _ _ h => h) (Or.inl ⟨by rfl, ?_⟩) ?_
              rotate_left
              · (intro w; go_simp) <;> with_reducible rfl
              refine wpAny_take (i := 9) (v := ?_) rfl (by kernel_rfl) (by kernel_rfl) (by kernel_rfl) (fun _ _ _ h => h) (Or.inl ⟨by rfl, ?_⟩) ?_
              rotate_left
              · (intro w; go_simp) <;> with_reducible rfl
              refine wpAny_take (i := 10) (v := ?_) rfl (by kernel_rfl) (by kernel_rfl) (by kernel_rfl) (fun _ _ _ h => h) (Or.inl ⟨by rfl, ?_⟩) ?_
              rotate_left
              · (intro w; go_simp) <;> with_reducible rfl
              refine wpAny_take (i := 11) (v := ?_) rfl (by kernel_rfl) (by kernel_rfl) (by kernel_rfl) (fun _ _ _ h => h) (Or.inl ⟨by rfl, ?_⟩) ?_
              rotate_left
              · (intro w; go_simp) <;> with_reducible rfl
              refine wpAny_done (by kernel_rfl) ?_ _
              go_wp2
              go_ret
              refine ⟨ch_b HC4.out, .inr ⟨u, _, _, at_ + 1 + wlen S (at_ + 1), rows, v, m, ?_, rfl, hwl, rfl, ST4.out, rfl, fun _ => rfl, List.take_length, .inl rfl, fun r hr => by simp at hr⟩⟩
              rw [HRD.out, HN.out]
              simp [HLN.out]
            · exact AllReady.nil
          | none =>
            rw [hln] at hlk
            have hrun : (Instr.lookup 82 (.map (some bm)) (.int .i64 n) true).run Tryz.prog w4 = .ok (.tuple #[.int .i64 0, .bool false]) w4 := hlk
            have HLN := Lib.hid hln
            clear hlk hln
            refine wpAny_ready (rs := [6]) (by kernel_rfl) (by simp) ?_
            refine AllReady.cons rfl (fun K hK => ?_) ?_
            · go_simp
              refine hK _ _ ?_
              clear hK K hrun c4b
              refine wpAny_take (i := 7) (v := ?_) rfl (by kernel_rfl) (by kernel_rfl) (by kernel_rfl) (fun _ _ _ h => h) (Or.inl ⟨by rfl, ?_⟩) ?_
              rotate_left
              · (intro w; go_simp) <;> with_reducible rfl
              refine wpAny_take (i := 8) (v := ?_) rfl (by kernel_rfl) (by kernel_rfl) (by kernel_rfl) (fun _ _ _ h => h) (Or.inl ⟨by rfl, ?_⟩) ?_
              rotate_left
              · (intro w; go_simp) <;> with_reducible rfl
              refine wpAny_take (i := 9) (v := ?_) rfl (by kernel_rfl) (by kernel_rfl) (by kernel_rfl) (fun _ _ _ h => h) (Or.inl ⟨by rfl, ?_⟩) ?_
              rotate_left
              · (intro w; go_simp) <;> with_reducible rfl
              refine wpAny_take (i := 10) (v := ?_) rfl (by kernel_rfl) (by kernel_rfl) (by kernel_rfl) (fun _ _ _ h => h) (Or.inl ⟨by rfl, ?_⟩) ?_
              rotate_left
              · (intro w; go_simp) <;> with_reducible rfl
              refine wpAny_take (i := 11) (v := ?_) rfl (by kernel_rfl) (by kernel_rfl) (by kernel_rfl) (fun _ _ _ h => h) (Or.inl ⟨by rfl, ?_⟩) ?_
              rotate_left
              · (intro w; go_simp) <;> with_reducible rfl
              refine wpAny_done (by kernel_rfl) ?_ _
              go_wp2
              refine ⟨rfl, ch_b HC4.out, .inl ⟨?_, rfl⟩⟩
              rw [HRD.out, HN.out]
              simp [HLN.out]
            · exact AllReady.nil
        · exact AllReady.nil
      · refine ⟨rfl, ch_b ((HC1.out.drew).trans (T := fun i => i = b) hc4 fun _ _ h => h), .inl ⟨?_, rfl⟩⟩
        rw [HRD.out, hn]
        rfl
    · exact AllReady.nil
end
/-- The reading of a node. -/
theorem rnode_any (S : List UInt8) (hS : S.length ≤ 4000) (bm b M : Nat) (w0 : World) (ok : RdOk bm b M w0) (hg : Gl w0) : ∀ f, RNodeC S bm b M w0 f := by
  intro f
  induction f with
  | zero => intro w at_ rows v m h ha hf; omega
  | succ f IH =>
    intro w at_ rows v m h ha hf hroom
    by_cases h95 : hd (S.drop at_) = 95
    · exact rnode_95 S hS bm b M w0 ok hg f IH at_ rows v m w h ha hf hroom h95
    by_cases h60 : hd (S.drop at_) = 60
    · exact rnode_60 S hS bm b M w0 ok hg f IH at_ rows v m w h ha hf hroom h60
    by_cases h64 : hd (S.drop at_) = 64
    · exact rnode_64 S hS bm b M w0 ok hg f IH at_ rows v m w h ha hf hroom h64
    by_cases h40 : hd (S.drop at_) = 40
    · exact rnode_40 S hS bm b M w0 ok hg f IH at_ rows v m w h ha hf hroom h40
    by_cases hd : hd (S.drop at_) = 45 ∨ (48 ≤ hd (S.drop at_) ∧ hd (S.drop at_) ≤ 57)
    · exact rnode_dig S hS bm b M w0 ok hg f IH at_ rows v m w h ha hf hroom hd
    · exact rnode_rest S hS bm b M w0 ok hg f IH at_ rows v m w h ha hf hroom ⟨h95, h60, h64, h40, hd⟩
end Go.Proofs.YtnleljpebnnhfaaGreatDoor

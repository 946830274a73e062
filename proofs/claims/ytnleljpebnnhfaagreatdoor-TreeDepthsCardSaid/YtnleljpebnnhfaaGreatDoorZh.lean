/- Least of package tree. -/
import Derived.Test.YtnleljpebnnhfaaGreatDoorZg
import Derived.Laws.ResultCell

set_option linter.unusedSimpArgs false
set_option linter.unusedVariables false
namespace Go.Proofs.YtnleljpebnnhfaaGreatDoor
open Go.RowKit
/-- The number of a class, as a key of the search. -/
def ck (cls : List Int) (i : Nat) : Nat := (gt cls i).toNat
/-- The map from classes to numbers. -/
def pairsOf (cls : List Int) (outs : List Nat) : List (Int × Int) := outs.zipIdx.map fun p => (gt cls p.1, (p.2 : Int))
theorem pairsOf_snoc (cls : List Int) (outs : List Nat) (i : Nat) : pairsOf cls (outs ++ [i]) = pairsOf cls outs ++ [(gt cls i, (outs.length : Int))] := by
  simp [pairsOf, List.zipIdx_append]
theorem mem_pairsOf {cls : List Int} {outs : List Nat} {x y : Int} : (x, y) ∈ pairsOf cls outs ↔ ∃ k, ∃ h : k < outs.length, x = gt cls outs[k] ∧ y = (k : Int) := by
  simp only [pairsOf, List.mem_map]
  constructor
  · rintro ⟨⟨a, b⟩, hp, e⟩
    obtain ⟨h1, h2⟩ := Prod.mk.inj e
    have := List.mem_zipIdx hp
    obtain ⟨_, hb, ha⟩ := this
    simp at hb ha
    exact ⟨b, hb, by rw [← h1, ha], h2.symm⟩
  · rintro ⟨k, hk, rfl, rfl⟩
    exact ⟨(outs[k], k), List.mem_zipIdx_iff_getElem?.2 (by simp [hk]), rfl⟩
theorem pairsOf_look {cls : List Int} {outs : List Nat} {i : Nat} {v : Int} (h : look (pairsOf cls outs) (gt cls i) = some v) : ∃ k, ∃ h : k < outs.length, v = (k : Int) ∧ gt cls outs[k] = gt cls i := by
  obtain ⟨k, hk, e1, e2⟩ := mem_pairsOf.1 (mem_of_look h)
  exact ⟨k, hk, e2, e1.symm⟩
theorem pairsOf_none {cls : List Int} {outs : List Nat} {i : Nat} (h : look (pairsOf cls outs) (gt cls i) = none) : ∀ j ∈ outs, gt cls j ≠ gt cls i := by
  intro j hj e
  obtain ⟨k, hk, rfl⟩ := List.mem_iff_getElem.1 hj
  exact look_none.1 h (List.mem_map.2 ⟨(gt cls outs[k], (k : Int)), mem_pairsOf.2 ⟨k, hk, rfl, rfl⟩, e⟩)
theorem pairsOf_ins {cls : List Int} {outs : List Nat} {i : Nat} (h : look (pairsOf cls outs) (gt cls i) = none) : ins (pairsOf cls outs) (gt cls i) (outs.length : Int) = pairsOf cls (outs ++ [i]) := by
  rw [pairsOf_snoc]; simp [ins, h]
/-- Where the search's things lie. -/
structure Pl where
  pn : Nat
  pc : Nat
  bc : Nat
  po : Nat
  pt : Nat
  pv : Nat
  bm : Nat
  M : Nat
def Pl.caps (L : Pl) : Array Value := #[.pointer (some ⟨L.pn, 0, none⟩), .pointer (some ⟨L.pc, 0, none⟩), .pointer (some ⟨L.po, 0, none⟩), .pointer (some ⟨L.pt, 0, none⟩), .pointer (some ⟨L.pv, 0, none⟩)]
/-- They lie apart. -/
structure Pl.Ok (L : Pl) (B : Nat) : Prop where
  po : B ≤ L.po ∧ L.po < L.M
  bm : B ≤ L.bm ∧ L.bm < L.M
  pn : L.pn < L.M ∧ L.pn ≠ L.po ∧ L.pn ≠ L.bm
  pc : L.pc < L.M ∧ L.pc ≠ L.po ∧ L.pc ≠ L.bm
  bc : L.bc < L.M ∧ L.bc ≠ L.po ∧ L.bc ≠ L.bm
  pt : L.pt < L.M ∧ L.pt ≠ L.po ∧ L.pt ≠ L.bm
  pv : L.pv < L.M ∧ L.pv ≠ L.po ∧ L.pv ≠ L.bm
  two : L.po ≠ L.bm
/-- What does not change while the search goes on. -/
structure LFix (G : List Nd) (cls : List Int) (A : Option Addr) (N c : Nat) (w0 : World) (L : Pl) (w : World) : Prop where
  ext : Ext w0 w
  cn : w.cell? ⟨L.pn, 0, none⟩ = some (.map (some L.bm))
  cc : w.cell? ⟨L.pc, 0, none⟩ = some (.slice (some ⟨L.bc, 0, none⟩) N N)
  row : Row w L.bc cls
  ct : w.cell? ⟨L.pt, 0, none⟩ = some (.slice A N c)
  cv : w.cell? ⟨L.pv, 0, none⟩ = some (.func (.func 61) #[] L.caps)
  size : L.M ≤ w.heap.size
/-- What a visit may turn. -/
def LMay (L : Pl) (v : Value) (i : Nat) : Prop := i = L.po ∨ i = L.bm ∨ v.ownBlock = some i
theorem LFix.chg {G : List Nd} {cls : List Int} {A : Option Addr} {N c : Nat} {w0 : World} {L : Pl} (ok : L.Ok w0.heap.size) {w w' : World} {v : Value} (h : LFix G cls A N c w0 L w) (k : ChgS (LMay L v) w w') (hv : ∀ g, v.ownBlock = some g → L.M ≤ g) : LFix G cls A N c w0 L w' := by
  have hno : ∀ i, i < L.M → i ≠ L.po → i ≠ L.bm → ¬ LMay L v i := by
    rintro i h1 h2 h3 (e | e | e)
    · exact h2 e
    · exact h3 e
    · have := hv i e; omega
  refine ⟨?_, k.cell h.cn (hno _ ok.pn.1 ok.pn.2.1 ok.pn.2.2), k.cell h.cc (hno _ ok.pc.1 ok.pc.2.1 ok.pc.2.2), k.row h.row (hno _ ok.bc.1 ok.bc.2.1 ok.bc.2.2), k.cell h.ct (hno _ ok.pt.1 ok.pt.2.1 ok.pt.2.2), k.cell h.cv (hno _ ok.pv.1 ok.pv.2.1 ok.pv.2.2), Nat.le_trans h.size k.size⟩
  refine k.extOf h.ext ?_
  rintro i (e | e | e)
  · rw [e]; exact ok.po.1
  · rw [e]; exact ok.bm.1
  · have := hv i e
    have := ok.po
    omega
/-- Where the search stands. -/
structure LSt (G : List Nd) (cls : List Int) (L : Pl) (w : World) (outs : List Nat) (rows : List (Nd × Value)) (v : Value) : Prop where
  po : w.heap[L.po]? = some (.cells #[v, .int .i64 0] 24 (0, 0))
  map : MapIs iv Fits iv w L.bm (pairsOf cls outs)
  own : OwnN w L.M v rows
  len : rows.length = outs.length
  tops : ∀ k (h : k < rows.length) (h' : k < outs.length), rows[k].1.kind = (nd G outs[k]).kind ∧ rows[k].1.num = (nd G outs[k]).num ∧ rows[k].1.label = (nd G outs[k]).label
  nodup : (outs.map (ck cls)).Nodup
  lt : ∀ x ∈ outs, x < G.length
/-- The nodes from number a on have their arguments. -/
def LDone (G : List Nd) (cls : List Int) (outs : List Nat) (rows : List (Nd × Value)) (a : Nat) : Prop :=
  ∀ k, a ≤ k → ∀ (h : k < rows.length) (h' : k < outs.length), All2 (fun (m : Int) (x : Nat) => ∃ j, ∃ h : j < outs.length, m = (j : Int) ∧ gt cls outs[j] = gt cls x) rows[k].1.args (kids G outs[k])
theorem OwnI.ext {w w' : World} {base : Nat} {v : Value} {xs : List Int} (h : OwnI w base v xs) (k : Ext w w') : OwnI w' base v xs :=
  (ChgS.of_ext (S := fun _ => False) k).ownI h fun _ _ => id
theorem OwnN.ext {w w' : World} {base : Nat} {v : Value} {rows : List (Nd × Value)} (h : OwnN w base v rows) (k : Ext w w') : OwnN w' base v rows :=
  (ChgS.of_ext (S := fun _ => False) k).ownN h (fun _ _ => id) fun _ _ _ _ => id
theorem LFix.of_ext {G : List Nd} {cls : List Int} {A : Option Addr} {N c : Nat} {w0 : World} {L : Pl} {w w' : World} (h : LFix G cls A N c w0 L w) (k : Ext w w') : LFix G cls A N c w0 L w' :=
  ⟨h.ext.trans' k, k.cell h.cn, k.cell h.cc, h.row.ext k, k.cell h.ct, k.cell h.cv, Nat.le_trans h.size k.size⟩
theorem LSt.of_ext {G : List Nd} {cls : List Int} {L : Pl} {w w' : World} {outs : List Nat} {rows : List (Nd × Value)} {v : Value} (h : LSt G cls L w outs rows v) (k : Ext w w') : LSt G cls L w' outs rows v :=
  ⟨k.heap h.po, h.map.ext k, h.own.ext k, h.len, h.tops, h.nodup, h.lt⟩
theorem LSt.outs_lt {G : List Nd} {cls : List Int} {L : Pl} {w : World} {outs : List Nat} {rows : List (Nd × Value)} {v : Value} {N : Nat} (h : LSt G cls L w outs rows v) (hN : G.length = N) (hcr : ∀ i, i < N → 0 ≤ gt cls i ∧ gt cls i < N) {i : Nat} (hi : i < N) (hne : ∀ j ∈ outs, gt cls j ≠ gt cls i) : outs.length < N ∧ ck cls i ∉ outs.map (ck cls) := by
  have hni : ck cls i ∉ outs.map (ck cls) := by
    intro hm
    obtain ⟨j, hj, e⟩ := List.mem_map.1 hm
    have h1 := hcr j (by rw [← hN]; exact h.lt j hj)
    have h2 := hcr i hi
    unfold ck at e
    exact hne j hj (by omega)
  refine ⟨?_, hni⟩
  have hnd : ((outs.map (ck cls)) ++ [ck cls i]).Nodup := by
    rw [List.nodup_append]
    exact ⟨h.nodup, by simp, fun a ha b hb e => by
      have : b = ck cls i := by simpa using hb
      exact hni (by rw [← this, ← e]; exact ha)⟩
  have := hnd.length_le_of_subset (l₂ := List.range N) fun x hx => by
    rw [List.mem_range]
    rcases List.mem_append.1 hx with hx | hx
    · obtain ⟨j, hj, e⟩ := List.mem_map.1 hx
      have h1 := hcr j (by rw [← hN]; exact h.lt j hj)
      unfold ck at e; omega
    · have : x = ck cls i := by simpa using hx
      have h2 := hcr i hi
      unfold ck at this; omega
  simp at this
  omega
/-- What a visit leaves. -/
def LPost (G : List Nd) (cls : List Int) (L : Pl) (w : World) (i : Nat) (outs : List Nat) (rows : List (Nd × Value)) (v : Value) (e : Ending) (w' : World) : Prop :=
  ∃ (k : Nat) (outs' : List Nat) (rows' : List (Nd × Value)) (v' : Value), e = .returned (.int .i64 k) ∧ (∃ h : k < outs'.length, gt cls outs'[k] = gt cls i) ∧ LSt G cls L w' outs' rows' v' ∧ ChgS (LMay L v) w w' ∧ Dfs (kids G) (ck cls) [i] outs outs' ∧
      rows'.take rows.length = rows ∧ LDone G cls outs' rows' outs.length ∧ (v'.ownBlock = v.ownBlock ∨ ∀ g, v'.ownBlock = some g → w.heap.size ≤ g) ∧ (∀ r ∈ rows'.drop rows.length, ∀ g, r.2.ownBlock = some g → w.heap.size ≤ g)
theorem LMay.mono {L : Pl} {v v' : Value} {n i : Nat} (h : v'.ownBlock = v.ownBlock ∨ ∀ g, v'.ownBlock = some g → n ≤ g) (hi : i < n) (hm : LMay L v' i) : LMay L v i := by
  rcases hm with e | e | e
  · exact .inl e
  · exact .inr (.inl e)
  · rcases h with h | h
    · exact .inr (.inr (by rw [← h]; exact e))
    · have := h i e; omega
theorem heap_set0 {w : World} {b : Nat} {x y : Value} {t : TypeId} (v : Value) (h : w.heap[b]? = some (.cells #[x, y] t (0, 0))) : (w.setCell ⟨b, 0, none⟩ v).heap[b]? = some (.cells #[v, y] t (0, 0)) := by
  simp [World.setCell, Array.getElem?_modify, h]
/-- What holds while the arguments of node i are visited. -/
structure LRun (G : List Nd) (cls : List Int) (A : Option Addr) (N c : Nat) (w0 : World) (L : Pl) (w : World) (i : Nat) (outs : List Nat) (rows : List (Nd × Value)) (v : Value) (j : Nat) (va : Value) (idxs : List Int) (wr : World) (outs2 : List Nat) (rows2 : List (Nd × Value)) (v2 : Value) : Prop where
  fix : LFix G cls A N c w0 L wr
  st : LSt G cls L wr outs2 rows2 v2
  chg : ChgS (LMay L v) w wr
  blk : v2.ownBlock = v.ownBlock ∨ ∀ g, v2.ownBlock = some g → w.heap.size ≤ g
  dfs : Dfs (kids G) (ck cls) ((kids G i).take j) (outs ++ [i]) outs2
  pre : rows2.take (rows.length + 1) = rows ++ [({ nd G i with args := [] }, .slice none 0 0)]
  own : OwnI wr L.M va idxs
  fresh : ∀ g, va.ownBlock = some g → w.heap.size ≤ g
  args : All2 (fun (m : Int) (x : Nat) => ∃ j, ∃ h : j < outs2.length, m = (j : Int) ∧ gt cls outs2[j] = gt cls x) idxs ((kids G i).take j)
  done : LDone G cls outs2 rows2 (outs.length + 1)
  sep : ∀ r ∈ rows2, ∀ g, va.ownBlock = some g → r.2.ownBlock ≠ some g
  new : ∀ r ∈ rows2.drop rows.length, ∀ g, r.2.ownBlock = some g → w.heap.size ≤ g
  nilv : idxs = [] → va = .slice none 0 0
theorem take_pre {α : Type} {l l' : List α} (h : l'.take l.length = l) : ∃ m, l' = l ++ m := ⟨l'.drop l.length, by conv => lhs; rw [← List.take_append_drop l.length l', h]⟩
theorem LDone.more {G : List Nd} {cls : List Int} {outs outs' : List Nat} {rows rows' : List (Nd × Value)} {a : Nat} (h : LDone G cls outs rows a) (ho : ∃ m, outs' = outs ++ m) (hr : rows'.take rows.length = rows) (hl : rows.length = outs.length) (h' : LDone G cls outs' rows' outs.length) : LDone G cls outs' rows' a := by
  obtain ⟨m, rfl⟩ := ho
  obtain ⟨n, rfl⟩ := take_pre hr
  intro k h1 h2 h3
  by_cases hk : k < rows.length
  · have hk' : k < outs.length := by omega
    have := h k h1 hk hk'
    rw [List.getElem_append_left hk, List.getElem_append_left hk']
    exact this.imp fun x y _ _ ⟨j, hj, e1, e2⟩ => ⟨j, by simp; omega, e1, by rw [List.getElem_append_left hj]; exact e2⟩
  · exact h' k (by omega) h2 h3
theorem visit_seen (G : List Nd) (cls : List Int) (A : Option Addr) (N c : Nat) (hN : G.length = N) (hmax : N ≤ 1000000) (w0 : World) (L : Pl) (hcl : cls.length = N) (hcr : ∀ i, i < N → 0 ≤ gt cls i ∧ gt cls i < N)
    (i : Nat) (w : World) (outs : List Nat) (rows : List (Nd × Value)) (v : Value) (hi : i < N) (hfix : LFix G cls A N c w0 L w) (hst : LSt G cls L w outs rows v) (u : Int) (hlk : look (pairsOf cls outs) (gt cls i) = some u) :
    Calls Tryz.prog 61 (#[.int .i64 i] ++ L.caps) w (LPost G cls L w i outs rows v) := by
  have hcl' := hcr i hi
  have hfits : Fits (gt cls i) := fits_of (by omega) (by omega)
  have hrun : ∀ n, (Instr.lookup 82 (.map (some L.bm)) (.int .i64 (gt cls i)) true).run Tryz.prog (w.drewN n) = .ok (.tuple #[.int .i64 u, .bool true]) (w.drewN n) := fun n => by
    have := (hst.map.ext (Ext.of_drewN w n)).lookup kl3 und82 zero3 hfits true
    rw [hlk] at this
    exact this
  obtain ⟨k, hk, rfl, hk2⟩ := pairsOf_look hlk
  obtain ⟨f1, f2, f3, f4, f5, f6, f7⟩ := hfix
  have fr := f4.cell i (by omega)
  have HST := Lib.hid hst
  have HK2 := Lib.hid hk2
  have HLK := Lib.hid hlk
  clear f1 f4 f5 f6 f7 hst hk2 hcl' hlk hfits hcl
  unfold Pl.caps
  go_enter Tryz.func61, Tryz.ntmps61
  go_wp2
  go_quiet (fail)
  go_wp2
  go_ret
  have hst := HST.out
  refine ⟨k, outs, rows, v, rfl, ⟨hk, HK2.out⟩, hst.of_ext (Ext.of_drewN _ _), ChgS.of_ext (Ext.of_drewN _ _), .skip (List.mem_map.2 ⟨outs[k], List.getElem_mem hk, by unfold ck; rw [HK2.out]⟩) (.nil _), by simp, fun j h1 h2 h3 => by omega, .inl rfl, by simp⟩
set_option maxRecDepth 100000 in
set_option maxHeartbeats 2000000 in
theorem visit_any (G : List Nd) (hG : VG G) (cls : List Int) (A : Option Addr) (N c : Nat) (hN : G.length = N) (hmax : N ≤ 1000000) (w0 : World) (hr : NdsRd w0 A G) (L : Pl) (ok : L.Ok w0.heap.size) (hcl : cls.length = N) (hcr : ∀ i, i < N → 0 ≤ gt cls i ∧ gt cls i < N) :
    ∀ (f : Nat) (i : Nat) (w : World) (outs : List Nat) (rows : List (Nd × Value)) (v : Value), N ≤ f + outs.length → i < N → LFix G cls A N c w0 L w → LSt G cls L w outs rows v →
    Calls Tryz.prog 61 (#[.int .i64 i] ++ L.caps) w (LPost G cls L w i outs rows v) := by
  intro f
  induction f with
  | zero =>
    intro i w outs rows v hf hi hfix hst
    cases hlk : look (pairsOf cls outs) (gt cls i) with
    | some u => exact visit_seen G cls A N c hN hmax w0 L hcl hcr i w outs rows v hi hfix hst u hlk
    | none =>
      have := (hst.outs_lt hN hcr hi (pairsOf_none hlk)).1
      omega
  | succ f ih =>
    intro i w outs rows v hf hi hfix hst
    cases hlk : look (pairsOf cls outs) (gt cls i) with
    | some u => exact visit_seen G cls A N c hN hmax w0 L hcl hcr i w outs rows v hi hfix hst u hlk
    | none =>
    have hcl' := hcr i hi
    have hfits : Fits (gt cls i) := fits_of (by omega) (by omega)
    obtain ⟨hlt, hni⟩ := hst.outs_lt hN hcr hi (pairsOf_none hlk)
    have hrun : ∀ n, (Instr.lookup 82 (.map (some L.bm)) (.int .i64 (gt cls i)) true).run Tryz.prog (w.drewN n) = .ok (.tuple #[.int .i64 0, .bool false]) (w.drewN n) := fun n => by
      have := (hst.map.ext (Ext.of_drewN w n)).lookup kl3 und82 zero3 hfits true
      rw [hlk] at this
      exact this
    have HFX := Lib.hid hfix
    have HST := Lib.hid hst
    have HLK := Lib.hid hlk
    have HNI := Lib.hid hni
    have HIH := Lib.hid ih
    have HFT := Lib.hid hfits
    have HG := Lib.hid hG
    have HR := Lib.hid hr
    have HOK := Lib.hid ok
    have HCR := Lib.hid hcr
    obtain ⟨f1, f2, f3, f4, f5, f6, f7⟩ := hfix
    have fr := f4.cell i (by omega)
    clear f1 f4 f5 f6 f7 hst hcl' hlk hni ih hfits hG hr ok hcr
    unfold Pl.caps
    go_enter Tryz.func61, Tryz.ntmps61
    go_wp2
    go_quiet (fail)
    clear f2 f3 fr hrun
    obtain ⟨w1, hw1⟩ : ∃ w1 : World, w1 = w.drewN nq := ⟨_, rfl⟩
    have X1 : Hid (Ext w w1) := Lib.hid (by rw [hw1]; exact Ext.of_drewN _ _)
    rw [← hw1]
    clear hw1
    have hfix1 := HFX.out.of_ext X1.out
    have hst1 := HST.out.of_ext X1.out
    have hsh := hst1.own.shape
    rw [hst1.len] at hsh
    obtain ⟨Av, cv, rfl, hcv⟩ := hsh
    obtain ⟨f1, f2, f3, f4, f5, f6, f7⟩ := hfix1
    have fr := f4.cell i (by omega)
    have fpo : w1.cell? ⟨L.po, 0, none⟩ = some (.slice Av outs.length cv) := by
      have := hst1.po
      simp [World.cell?, this]
    have HRL := Lib.hid hst1.len
    have HST1 := Lib.hid hst1
    clear f1 f4 f5 f6 f7 hst1
    go_wp2
    go_still_tail 6, (by kernel_rfl)
    change wpList _ _ _ _ _ w1.drew
    go_wp2_with (at_mapUpdate; refine wpList_upd rfl _ _ _ 82 rfl kl3 und82 (HST1.out.map.ext (Ext.rfl' _).drew) rfl (gt cls i) HFT.out rfl (outs.length : Int) rfl ?_)
    intro w2 hM hch
    rw [pairsOf_ins HLK.out] at hM
    have hvM : ∀ g, (Value.slice Av outs.length cv).ownBlock = some g → L.M ≤ g := fun g hg => (HST1.out.own.block hg).1
    have hC2 : ChgS (LMay L (Value.slice Av outs.length cv)) w w2 := ((ChgS.of_ext X1.out).drew).chg hch (.inl (.inr (.inl rfl)))
    have hbm : ∀ g, (Value.slice Av outs.length cv).ownBlock = some g → g ≠ L.bm := fun g hg e => by have := hvM g hg; have := HOK.out.bm; omega
    have hCb : ChgS (fun j => j = L.bm) w1 w2 := ((ChgS.refl (fun j => j = L.bm) w1).drew).chg hch (.inl rfl)
    have hpo2 : w2.heap[L.po]? = some (.cells #[.slice Av outs.length cv, .int .i64 0] 24 (0, 0)) := hCb.heap HST1.out.po HOK.out.two
    have hown2 : OwnN w2 L.M (.slice Av outs.length cv) rows := hCb.ownN HST1.out.own hbm fun r hr g hg e => by
      have := ((HST1.out.own.args r hr).block hg).1
      have := HOK.out.bm
      omega
    have hfix2 := HFX.out.chg HOK.out hC2 hvM
    obtain ⟨b, o, hA, A1, c1, q0, q1, q2, q3, p4, p5⟩ := HR.out.get (i := i) (by omega)
    have p0 := hfix2.ext.cell q0
    have p1 := hfix2.ext.cell q1
    have p2 := hfix2.ext.cell q2
    have p3 := hfix2.ext.cell q3
    clear q0 q1 q2 q3
    have HFX2 := Lib.hid hfix2
    have HM := Lib.hid hM
    have HC2 := Lib.hid hC2
    have HPO := Lib.hid hpo2
    have HOW := Lib.hid hown2
    have HVM := Lib.hid hvM
    obtain ⟨g1, g2, g3, g4, g5, g6, g7⟩ := hfix2
    have fpo : w2.cell? ⟨L.po, 0, none⟩ = some (.slice Av outs.length cv) := by simp [World.cell?, hpo2]
    have ffr : w2.frozen? ⟨L.po, 0, none⟩ = false := by simp [World.frozen?, hpo2]
    have P5 := Lib.hid p5
    have hargs := valid_ar (HG.out _ (nd_mem (i := i) (by omega)))
    clear g1 g2 g3 g4 g6 g7 hM hch hC2 hbm hCb hpo2 hown2 hvM p4 p5 f2 f3 fr HFX HLK HFT
    have fpo2 : ∀ ob, (w2.alloc ob).cell? ⟨L.po, 0, none⟩ = some (.slice Av outs.length cv) := fun ob => ((Ext.rfl' w2).alloc ob).cell fpo
    subst hA
    go_wp2_with (at_builtin; refine wpList_app22 rfl _ _ rfl L.M (.slice Av outs.length cv) rows rfl (HOW.out.ext (((Ext.rfl' _).alloc _).alloc _)) (w2.heap.size + 1) 1 ({ nd G i with args := [] }, .slice none 0 0) rfl (by simp) (by simp) (by simp) (by simp) (OwnI.nil _ _) (fun _ => rfl) (by have := HRL.out; omega) (by have := HFX2.out.size; simp; omega) ?_)
    intro v' w3 hown3 hgr hat
    obtain ⟨A2, k2, rfl, hk2⟩ : ∃ A2 k2, v' = .slice A2 (outs.length + 1) k2 ∧ outs.length + 1 ≤ k2 := by
      have := hown3.shape
      simpa [HRL.out] using this
    have hsz2 : w.heap.size ≤ w2.heap.size := HC2.out.size
    have hM2 : L.M ≤ w2.heap.size := HFX2.out.size
    have hpoM := HOK.out.po
    have hC3 : ChgS (LMay L (Value.slice Av outs.length cv)) w w3 := (((HC2.out.alloc _).alloc _).grown hgr fun j hj => .inl (.inr (.inr hj)))
    have hat' : (Value.slice A2 (outs.length + 1) k2).ownBlock = (Value.slice Av outs.length cv).ownBlock ∨ ∀ g, (Value.slice A2 (outs.length + 1) k2).ownBlock = some g → w2.heap.size + 1 + 1 ≤ g := hat.imp id fun h g hg => by
      rw [h] at hg; have := Option.some.inj hg; omega
    have hCg : ChgS (fun j => (Value.slice Av outs.length cv).ownBlock = some j) w2 w3 := (((ChgS.refl (fun j => (Value.slice Av outs.length cv).ownBlock = some j) w2).alloc _).alloc _).grown hgr fun j hj => .inl hj
    have hpo3 : w3.heap[L.po]? = some (.cells #[.slice Av outs.length cv, .int .i64 0] 24 (0, 0)) := hCg.heap HPO.out fun e => by have := HVM.out _ e; omega
    have hm3 : MapIs iv Fits iv w3 L.bm (pairsOf cls (outs ++ [i])) := hCg.map HM.out fun e => by have := HVM.out _ e; have := HOK.out.bm; omega
    have hbox : w3.cell? ⟨w2.heap.size, 3, none⟩ = some (.slice A1 (nd G i).args.length c1) := by
      refine ((ChgS.refl (fun j => (Value.slice Av outs.length cv).ownBlock = some j) _).grown hgr fun j hj => .inl hj).cell (by simp) ?_
      intro e
      have := (HOW.out.block e).2.1
      simp at this
    have hbox2 : ∀ u, (w3.setCell ⟨L.po, 0, none⟩ u).cell? ⟨w2.heap.size, 3, none⟩ = some (.slice A1 (nd G i).args.length c1) := fun u =>
      ((ChgS.refl (fun j => j = L.po) w3).set (.inl rfl) 0 u).cell hbox (by show ¬ w2.heap.size = L.po; omega)
    have c4 : w3.cell? ⟨L.po, 0, none⟩ = some (.slice Av outs.length cv) := by simp [World.cell?, hpo3]
    have fr4 : w3.frozen? ⟨L.po, 0, none⟩ = false := by simp [World.frozen?, hpo3]
    have hCpo : ChgS (fun j => j = L.po) w3 (w3.setCell ⟨L.po, 0, none⟩ (.slice A2 (outs.length + 1) k2)) := (ChgS.refl (fun j => j = L.po) w3).set (.inl rfl) 0 (.slice A2 (outs.length + 1) k2)
    have hown4 : OwnN (w3.setCell ⟨L.po, 0, none⟩ (.slice A2 (outs.length + 1) k2)) L.M (.slice A2 (outs.length + 1) k2) (rows ++ [({ nd G i with args := [] }, .slice none 0 0)]) := hCpo.ownN hown3 (fun g hg e => by have := (hown3.block hg).1; omega) fun r hr g hg e => by have := ((hown3.args r hr).block hg).1; omega
    have hC4 : ChgS (LMay L (Value.slice Av outs.length cv)) w (w3.setCell ⟨L.po, 0, none⟩ (.slice A2 (outs.length + 1) k2)) := hC3.set (.inl (.inl rfl)) 0 (.slice A2 (outs.length + 1) k2)
    have hrun0 : LRun G cls (some ⟨b, o, none⟩) N c w0 L w i outs rows (.slice Av outs.length cv) 0 (.slice none 0 0) [] (w3.setCell ⟨L.po, 0, none⟩ (.slice A2 (outs.length + 1) k2)) (outs ++ [i]) (rows ++ [({ nd G i with args := [] }, .slice none 0 0)]) (.slice A2 (outs.length + 1) k2) := by
      refine ⟨?_, ⟨heap_set0 _ hpo3, hCpo.map hm3 (Ne.symm HOK.out.two), hown4, by simp [HRL.out], ?_, ?_, ?_⟩, hC4, ?_, by simpa using Dfs.nil _, ?_, OwnI.nil _ _, ?_, by simpa using All2.nil, ?_, ?_, ?_, fun _ => rfl⟩
      · refine HFX2.out.chg HOK.out (v := .slice Av outs.length cv) ?_ HVM.out
        exact (hCg.mono fun j _ hj => .inr (.inr hj)).set (.inl (.inl rfl)) 0 (.slice A2 (outs.length + 1) k2)
      · intro k h h'
        by_cases hk : k < rows.length
        · have hk' : k < outs.length := by have := HRL.out; omega
          have := HST1.out.tops k hk hk'
          simpa [List.getElem_append_left, hk, hk'] using this
        · have hk' : ¬ k < outs.length := by have := HRL.out; omega
          simp at h
          rw [List.getElem_append_right (by omega), List.getElem_append_right (by omega)]
          simp
      · rw [List.map_append, List.nodup_append]
        refine ⟨HST1.out.nodup, by simp, fun a ha b hb e => ?_⟩
        have hb' : b = ck cls i := by simpa using hb
        exact HNI.out (by rw [← hb', ← e]; exact ha)
      · intro x hx
        rcases List.mem_append.1 hx with hx | hx
        · exact HST1.out.lt x hx
        · have : x = i := by simpa using hx
          omega
      · exact hat'.imp id fun h g hg => by have := h g hg; omega
      · rw [List.take_of_length_le (by simp)]
      · intro g hg; simp [Value.ownBlock] at hg
      · intro k h1 h2 h3
        simp at h3; omega
      · intro r hr g hg; simp [Value.ownBlock] at hg
      · intro r hr g hg
        simp at hr
        rw [hr] at hg
        simp [Value.ownBlock] at hg
    have HRUN := Lib.hid hrun0
    have HX2 := Lib.hid HFX2.out.ext
    clear hrun0 hC4 hown4 hCpo hbox hm3 hpo3 hCg hat' hC3 hat hgr hown3 fpo fpo2 ffr p0 p1 p2 p3 HST HST1 X1 HOW HPO HC2 HM HFX2
    go_wp2
    generalize w3.setCell ⟨L.po, 0, none⟩ (.slice A2 (outs.length + 1) k2) = w4 at HRUN ⊢
    clear hbox2 c4 fr4 g5
    have HKL : Hid ((kids G i).length = (nd G i).args.length) := Lib.hid (by simp [kids])
    go_loopw [12, 55] (fun v12 v55 wr => ∃ (j : Nat) (va : Value) (idxs : List Int) (outs2 : List Nat) (rows2 : List (Nd × Value)) (v2 : Value), j ≤ (nd G i).args.length ∧ v12 = va ∧ v55 = .int .i64 j ∧
      LRun G cls (some ⟨b, o, none⟩) N c w0 L w i outs rows (.slice Av outs.length cv) j va idxs wr outs2 rows2 v2) (fun _ v55 _ => (nd G i).args.length - (intOf v55).toNat)
    case atStart => exact ⟨0, _, _, _, _, _, by omega, rfl, rfl, HRUN.out⟩
    case round =>
      clear HRUN
      obtain ⟨j, va, idxs, outs2, rows2, v2, hj, rfl, rfl, R⟩ := hrel
      by_cases hja : j < (nd G i).args.length
      · have hkj : j < (kids G i).length := by rw [HKL.out]; exact hja
        have hG := HG.out
        have hkr := hG.kids (i := i) (by omega) (List.getElem_mem hkj)
        obtain ⟨a, ha⟩ : ∃ a, (kids G i)[j] = a := ⟨_, rfl⟩
        rw [ha] at hkr
        have hval : (nd G i).args[j] = (a : Int) := by
          have e1 := hG.args (i := i) (by omega)
          have e2 : (nd G i).args[j]? = ((kids G i).map Int.ofNat)[j]? := by rw [e1]
          simp [hja, hkj, ha] at e2
          exact e2
        obtain ⟨b', o', hA', hc'⟩ := (P5.out.ext R.fix.ext).2 (by omega)
        have hc := hc' j hja
        rw [hval] at hc
        obtain ⟨Aa, ka, rfl, hka⟩ := R.own.shape
        have gv := R.fix.cv
        have HR2 := Lib.hid R
        have HA := Lib.hid ha
        clear hG hc' hval R ha
        subst hA'
        go_wp2_with fail
        have hgrow := HR2.out.dfs.grow
        have hlen2 : outs.length + 1 ≤ outs2.length := by
          obtain ⟨m, e⟩ := hgrow
          rw [e]; simp
        refine (HIH.out a wr outs2 rows2 v2 (by omega) (by omega) HR2.out.fix HR2.out.st).mono ?_
        rintro e5 w5 ⟨k, outs3, rows3, v3, rfl, hk3, st3, ch3, d3, pre3, done3, blk3, new3⟩
        have R := HR2.out
        have ok := HOK.out
        have hv2 : ∀ g, v2.ownBlock = some g → L.M ≤ g := fun g hg => (R.st.own.block hg).1
        have hvaM : ∀ g, (Value.slice Aa idxs.length ka).ownBlock = some g → L.M ≤ g := fun g hg => (R.own.block hg).1
        have hva : ∀ g, (Value.slice Aa idxs.length ka).ownBlock = some g → ¬ LMay L v2 g := by
          rintro g hg (e | e | e)
          · have := hvaM g hg; have := ok.po; omega
          · have := hvaM g hg; have := ok.bm; omega
          · exact R.st.own.apart R.own hg e
        have own5 := ch3.ownI R.own hva
        have fix5 := R.fix.chg ok ch3 hv2
        have hlen3 : Hid (idxs.length = j) := Lib.hid (by rw [R.args.length, List.length_take]; omega)
        have C5 := Lib.hid (R.chg.trans ch3 fun i hi hm => hm.mono R.blk hi)
        have ST3 := Lib.hid st3
        have HK3 := Lib.hid hk3
        have D3 := Lib.hid d3
        have PRE3 := Lib.hid pre3
        have DONE3 := Lib.hid done3
        have BLK3 := Lib.hid blk3
        have NEW3 := Lib.hid new3
        have FIX5 := Lib.hid fix5
        have OWN5 := Lib.hid own5
        have HSZ := Lib.hid ch3.size
        have HVA := Lib.hid hvaM
        clear R ok hv2 hvaM hva fix5 own5 st3 hk3 ch3 d3 pre3 done3 blk3 new3 hgrow hc gv
        go_wp2_with (at_builtin; refine wpList_app44 rfl _ _ rfl L.M (.slice Aa idxs.length ka) idxs rfl (OWN5.out.ext ((Ext.rfl' _).alloc _)) ⟨w5.heap.size, 0, none⟩ 1 (k : Int) rfl (by simp) (by have := hlen3.out; omega) (by have := FIX5.out.size; simp; omega) ?_)
        intro va' w6 own6 gr6 at6
        have R := HR2.out
        have ok := HOK.out
        have C56 : ChgS (LMay L (Value.slice Aa idxs.length ka)) w5 w6 := ((ChgS.refl (LMay L (Value.slice Aa idxs.length ka)) w5).alloc _).grown gr6 fun i hi => .inl (.inr (.inr hi))
        have CR : ChgS (fun g => (Value.slice Aa idxs.length ka).ownBlock = some g) w5 w6 := ((ChgS.refl (fun g => (Value.slice Aa idxs.length ka).ownBlock = some g) w5).alloc _).grown gr6 fun i hi => .inl hi
        obtain ⟨more3, he3⟩ := take_pre PRE3.out
        have hsep : ∀ r ∈ rows3, ∀ g, (Value.slice Aa idxs.length ka).ownBlock = some g → r.2.ownBlock ≠ some g := by
          intro r hr g hg e
          rw [he3] at hr
          rcases List.mem_append.1 hr with hr | hr
          · exact R.sep r hr g hg e
          · have h1 := NEW3.out r (by rw [he3]; simpa using hr) g e
            have h2 := (R.own.block hg).2.1
            omega
        have st6 : LSt G cls L w6 outs3 rows3 v3 := by
          refine ⟨CR.heap ST3.out.po fun e => ?_, CR.map ST3.out.map fun e => ?_, CR.ownN ST3.out.own (fun g hg e => ?_) fun r hr g hg e => ?_, ST3.out.len, ST3.out.tops, ST3.out.nodup, ST3.out.lt⟩
          · have := HVA.out _ e; have := ok.po; omega
          · have := HVA.out _ e; have := ok.bm; omega
          · exact ST3.out.own.apart OWN5.out e hg
          · exact hsep r hr g e hg
        obtain ⟨mo3, heo3⟩ := D3.out.grow
        have hfresh : ∀ g, va'.ownBlock = some g → w.heap.size ≤ g := by
          intro g hg
          rcases at6 with h | h
          · exact R.fresh g (by rw [← h]; exact hg)
          · rw [h] at hg
            have := Option.some.inj hg
            have := C5.out.size
            omega
        have hRL := HRL.out
        have hl2 := R.st.len
        have hRun : LRun G cls (some ⟨b, o, none⟩) N c w0 L w i outs rows (.slice Av outs.length cv) (j + 1) va' (idxs ++ [(k : Int)]) w6 outs3 rows3 v3 := by
          refine ⟨FIX5.out.chg ok C56 HVA.out, st6, ?_, ?_, ?_, ?_, own6, hfresh, ?_, R.done.more ⟨mo3, heo3⟩ PRE3.out R.st.len (by have := DONE3.out; exact this), ?_, ?_, by simp⟩
          · exact (C5.out.alloc _).grown gr6 fun i hi => .inr (R.fresh i hi)
          · rcases BLK3.out with h | h
            · rcases R.blk with h' | h'
              · exact .inl (h.trans h')
              · exact .inr fun g hg => h' g (by rw [← h]; exact hg)
            · exact .inr fun g hg => by have := h g hg; have := R.chg.size; omega
          · rw [List.take_add_one, List.getElem?_eq_getElem hkj, HA.out]
            exact R.dfs.append D3.out
          · have h1 : rows.length + 1 ≤ rows2.length := by rw [hl2, hRL]; omega
            rw [he3, List.take_append_of_le_length h1]
            exact R.pre
          · rw [List.take_add_one, List.getElem?_eq_getElem hkj, HA.out]
            refine (R.args.imp fun x y _ _ h => ?_).append (.cons ?_ .nil)
            · obtain ⟨j, hj, e1, e2⟩ := h
              subst heo3
              exact ⟨j, by simp; omega, e1, by rw [List.getElem_append_left hj]; exact e2⟩
            · obtain ⟨h, e⟩ := HK3.out
              exact ⟨k, h, rfl, e⟩
          · intro r hr g hg e
            rcases at6 with h | h
            · exact hsep r hr g (by rw [← h]; exact hg) e
            · rw [h] at hg
              have h1 := Option.some.inj hg
              have h2 := ((ST3.out.own.args r hr).block e).2.1
              omega
          · intro r hr g hg
            have h1 : rows.length ≤ rows2.length := by rw [hl2, hRL]; omega
            rw [he3, List.drop_append_of_le_length h1] at hr
            rcases List.mem_append.1 hr with hr | hr
            · exact R.new r hr g hg
            · have h2 := NEW3.out r (by rw [he3]; simpa using hr) g hg
              have := R.chg.size
              omega
        have HRUN := Lib.hid hRun
        clear hRun hl2 hRL hfresh st6 hsep C56 CR R ok own6 gr6 at6 he3 heo3
        go_wp2
        exact ⟨⟨j + 1, _, _, _, _, _, by omega, rfl, by go_num, HRUN.out⟩, by simp [intOf]; omega⟩
      · obtain rfl : (nd G i).args.length = j := by omega
        have hgrow := R.dfs.grow
        have hlen2 : outs.length + 1 ≤ outs2.length := by
          obtain ⟨m, e⟩ := hgrow
          rw [e]; simp
        have hl2 := R.st.len
        have hRL := HRL.out
        have hk0 : outs.length < rows2.length := by omega
        obtain ⟨g, cap, cur, hv2, hMg, hgh, hcap, _⟩ := R.st.own.at (by omega)
        subst hv2
        have hcells := (R.st.own.cell (g := g) rfl outs.length hk0).2.2.2
        have hset := R.st.own.setArgs (g := g) rfl hk0 R.own R.nilv
        obtain ⟨Aa, ka, rfl, hka⟩ := R.own.shape
        have c1 : wr.cell? ⟨L.po, 0, none⟩ = some (.slice (some ⟨g, 0, none⟩) rows2.length cap) := by
          have := R.st.po
          simp [World.cell?, this]
        have fz : wr.frozen? ⟨g, outs.length * 4 + 3, none⟩ = false := by simp [World.frozen?, hgh]
        have hro : outs.length < rows2.length := hk0
        have HS := Lib.hid hset
        have HR2 := Lib.hid R
        have HL2 := Lib.hid hl2
        have HRL2 := Lib.hid hRL
        clear hgh hgrow hset R hl2 hRL
        go_wp2
        go_ret
        have R := HR2.out
        have ok := HOK.out
        have hl2 := HL2.out
        have hRL := HRL2.out
        have hgw : ∀ (u : Nat), u = g → LMay L (Value.slice (some ⟨g, 0, none⟩) rows2.length cap) u := fun u e => .inr (.inr (by rw [e]; rfl))
        have CS : ChgS (fun j => j = g) wr (wr.setCell ⟨g, outs.length * 4 + 3, none⟩ (.slice Aa idxs.length ka)) := (ChgS.refl (fun j => j = g) wr).set (.inl rfl) _ _
        have hMpo := ok.po
        have hMbm := ok.bm
        have hpre : rows2[outs.length]? = some ({ nd G i with args := [] }, .slice none 0 0) := by
          have h1 : (rows2.take (rows.length + 1))[outs.length]? = rows2[outs.length]? := by rw [List.getElem?_take]; simp; omega
          rw [← h1, R.pre, List.getElem?_append_right (by omega)]
          simp [hRL]
        have hpre' : rows2[outs.length]'hk0 = ({ nd G i with args := [] }, .slice none 0 0) := by
          rw [List.getElem?_eq_getElem hk0] at hpre
          exact Option.some.inj hpre
        have hout0 : outs2[outs.length]? = some i := by
          obtain ⟨m, e⟩ := R.dfs.grow
          rw [e]; simp
        have hout0' : outs2[outs.length]'(by omega) = i := by
          rw [List.getElem?_eq_getElem (by omega)] at hout0
          exact Option.some.inj hout0
        refine ⟨outs.length, outs2, _, _, rfl, ⟨by omega, by rw [hout0']⟩, ⟨CS.heap R.st.po (by omega), CS.map R.st.map (by omega), HS.out, by simpa using hl2, ?_, R.st.nodup, R.st.lt⟩, ?_, Dfs.one HNI.out ?_, ?_, ?_, R.blk, ?_⟩
        · intro k h h'
          have hk : k < rows2.length := by simpa using h
          have := R.st.tops k hk h'
          rw [List.getElem_set]
          split
          · rename_i e; subst e; exact this
          · exact this
        · refine R.chg.set ?_ _ _
          rcases R.blk with h | h
          · exact .inl (.inr (.inr (by rw [← h]; rfl)))
          · exact .inr (h g rfl)
        · have := R.dfs
          rwa [List.take_of_length_le (by rw [HKL.out]; omega)] at this
        · rw [List.take_set_of_le (by omega)]
          have h1 : rows2.take rows.length = (rows2.take (rows.length + 1)).take rows.length := by rw [List.take_take]; congr 1; omega
          rw [h1, R.pre]; simp
        · intro k h1 h2 h3
          have hk : k < rows2.length := by simpa using h2
          rw [List.getElem_set]
          split
          · rename_i e
            subst e
            have := R.args
            rw [List.take_of_length_le (by rw [HKL.out]; omega)] at this
            rw [hout0']
            exact this
          · exact R.done k (by omega) hk h3
        · intro r hr g' hg'
          rw [List.mem_iff_getElem] at hr
          obtain ⟨q, hq, rfl⟩ := hr
          rw [List.getElem_drop] at hg'
          have hq' : rows.length + q < rows2.length := by simp at hq; omega
          rw [List.getElem_set] at hg'
          split at hg'
          · exact R.fresh g' hg'
          · exact R.new _ (by rw [List.mem_iff_getElem]; exact ⟨q, by simp; omega, by rw [List.getElem_drop]⟩) g' hg'
end Go.Proofs.YtnleljpebnnhfaaGreatDoor

set_option linter.unusedSimpArgs false
set_option linter.unusedVariables false
namespace Go.Proofs.YtnleljpebnnhfaaGreatDoor
open Go.RowKit
theorem mkMap82 (W : World) : (Instr.makeMap 82 none).run Tryz.prog W = .ok (.map (some W.heap.size)) (W.alloc (.map #[] 0)) := by kernel_rfl
theorem results_cell1 {fn : Func} {p : Tmp} {ty : TypeId} (h : fn.results = #[.cell p ty]) (tmps : Array Value) (w : World) (g : Nat) (t : TypeId) (cs : Array Value) (fr : Nat × Nat) (fs : Array Field) (hp : tmps.getD p undef = .pointer (some ⟨g, 0, none⟩)) (hg : w.heap[g]? = some (.cells cs t fr))
    (hu : Tryz.prog.underlying ty = some (.struct fs)) (hi : (Tryz.prog.info? ty).map (·.size) = some cs.size) : (results fn tmps).run Tryz.prog w = .ok (.agg cs) w := by
  have hl := run_loadVar_row (P := Tryz.prog) w g t ty cs fr (.struct fs) hg hu rfl hi
  unfold results
  rw [show fn.results = [ResultVar.cell p ty].toArray from h, List.mapM_toArray]
  simp only [List.mapM_cons, List.mapM_nil, hp, asAddr]
  simp [hl, Result.andThen]
theorem storeFunc (ad : Addr) (f : Fn) (ts cs : Array Value) (W : World) : (store ad (.func f ts cs)).run Tryz.prog W = stored Tryz.prog W ad (.func f ts cs) .plain := run_store _ _ _ _ _ rfl
/-- Where least's things lie. -/
def Pl.of (s0 s1 bc : Nat) : Pl := ⟨s1 + 1 + 1, s1, bc, s1 + 1 + 1 + 1, s0, s1 + 1 + 1 + 1 + 1, s1 + 1, s1 + 1 + 1 + 1 + 1 + 1⟩
theorem Pl.of_ok {s0 s1 bc : Nat} (h1 : s0 + 2 ≤ s1) (h2 : s0 + 2 ≤ bc) (h3 : bc < s1) : (Pl.of s0 s1 bc).Ok s0 := by
  constructor <;> simp only [Pl.of] <;> omega
def startW (w1 : World) (s0 bc N : Nat) : World :=
  ((((w1.alloc (.cells #[Value.slice (some ⟨bc, 0, none⟩) N N] 44)).alloc (.map #[] 0)).alloc (.cells #[Value.map (some (w1.heap.size + 1))] 82)).alloc (.cells #[Value.slice none 0 0, Value.int .i64 0] 24)).alloc (.cells #[Value.func (.func 61) #[] (Pl.of s0 w1.heap.size bc).caps] 87)
theorem startW_ext (w1 : World) (s0 bc N : Nat) : Ext w1 (startW w1 s0 bc N) := (((((Ext.rfl' w1).alloc _).alloc _).alloc _).alloc _).alloc _
theorem new_cell (W : World) (v : Value) (t : TypeId) (b : Nat) (hb : b = W.heap.size) : (W.alloc (.cells #[v] t)).cell? ⟨b, 0, none⟩ = some v := by
  subst hb; simp
theorem new_heap (W : World) (o : Obj) (b : Nat) (hb : b = W.heap.size) : (W.alloc o).heap[b]? = some o := by
  subst hb; exact heap_alloc_new _ _
theorem startW_fix {G : List Nd} {cls : List Int} {A : Option Addr} {N c : Nat} {w0 w1 : World} {bc : Nat} (hE : Ext w0 w1) (hr : Row w1 bc cls) (h0 : w1.cell? ⟨w0.heap.size, 0, none⟩ = some (.slice A N c)) :
    LFix G cls A N c w0 (Pl.of w0.heap.size w1.heap.size bc) (startW w1 w0.heap.size bc N) := by
  have X := startW_ext w1 w0.heap.size bc N
  refine ⟨hE.trans' X, ?_, ?_, hr.ext X, X.cell h0, ?_, ?_⟩
  · unfold startW
    exact (((Ext.rfl' _).alloc _).alloc _).cell (new_cell _ _ _ _ (by simp [Pl.of]))
  · unfold startW
    exact (((((Ext.rfl' _).alloc _).alloc _).alloc _).alloc _).cell (new_cell _ _ _ _ (by simp [Pl.of]))
  · unfold startW
    exact new_cell _ _ _ _ (by simp [Pl.of])
  · simp [startW, Pl.of]
theorem startW_st {G : List Nd} {cls : List Int} {N : Nat} {w1 : World} {s0 bc : Nat} : LSt G cls (Pl.of s0 w1.heap.size bc) (startW w1 s0 bc N) [] [] (.slice none 0 0) := by
  refine ⟨?_, ?_, OwnN.nil _ _, rfl, fun k h => by simp at h, by simp, by simp⟩
  · unfold startW
    exact ((Ext.rfl' _).alloc _).heap (new_heap _ _ _ (by simp [Pl.of]))
  · unfold startW
    have := MapIs.made (enc := iv) (ok := Fits) (encV := iv) (w1.alloc (.cells #[Value.slice (some ⟨bc, 0, none⟩) N N] 44))
    have e : (w1.alloc (.cells #[Value.slice (some ⟨bc, 0, none⟩) N N] 44)).heap.size = (Pl.of s0 w1.heap.size bc).bm := by simp [Pl.of]
    rw [e] at this
    exact this.ext ((((Ext.rfl' _).alloc _).alloc _).alloc _)
theorem canon_of_lst {G : List Nd} (hG : VG G) {cls : List Int} (hcr : ∀ i, i < G.length → 0 ≤ gt cls i ∧ gt cls i < G.length) (hcd : ∀ i j, i < G.length → j < G.length → (gt cls i = gt cls j ↔ den G i = den G j)) {L : Pl} {w : World} {outs : List Nat} {rows : List (Nd × Value)} {v : Value}
    (st : LSt G cls L w outs rows v) (dn : LDone G cls outs rows 0) {root : Nat} (hroot : root < G.length) (hd : Dfs (kids G) (ck cls) [root] [] outs) : Canon (rows.map (·.1)) (den G root) := by
  have hl := st.len
  have hnd : ∀ k (h : k < rows.length), nd (rows.map (·.1)) k = rows[k].1 := fun k h => by rw [nd_eq (by simpa using h)]; simp
  refine canon_of_dfs hG (key := ck cls) (S := fun i => i < G.length) (fun i hi => ⟨hi, fun j hj => hG.kids hi hj⟩) ?_ hroot hd (by simpa using hl) ?_ ?_
  · intro i j hi hj
    rw [← hcd i j hi hj]
    have := hcr i hi
    have := hcr j hj
    unfold ck
    omega
  · intro k hk a ha
    have hk' : k < rows.length := by simpa using hk
    rw [hnd k hk'] at ha
    obtain ⟨x, _, j, hj, e, _⟩ := (dn k (by omega) hk' (by omega)).mem_left ha
    omega
  · intro k hk
    have hk' : k < rows.length := by omega
    have hA := dn k (by omega) hk' hk
    constructor
    · obtain ⟨t1, t2, t3⟩ := st.tops k hk' hk
      have hlen : rows[k].1.args.length = (nd G outs[k]).args.length := by rw [hA.length]; simp [kids]
      simp [top, topN, hnd k hk', t1, t2, t3, hlen]
    · have : kids (rows.map (·.1)) k = rows[k].1.args.map Int.toNat := by simp [kids, hnd k hk']
      rw [this]
      refine All2.of_get (by simpa using hA.length) fun q h1 h2 => ?_
      obtain ⟨j, hj, e1, e2⟩ := hA.get q (by simpa using h1) h2
      simp only [List.getElem_map, e1, Int.toNat_natCast]
      exact ⟨hj, by unfold ck; rw [e2]⟩
/-- A row of nodes that lies in blocks from base on. -/
def OwnG (w : World) (base : Nat) (v : Value) (C : List Nd) : Prop := ∃ rows, OwnN w base v rows ∧ C = rows.map (·.1)
theorem OwnI.mono {w : World} {base base' : Nat} {v : Value} {xs : List Int} (h : OwnI w base v xs) (hb : base' ≤ base) : OwnI w base' v xs := by
  refine ⟨h.1, ?_⟩
  rcases h.2 with h0 | ⟨g, cap, cur, e1, e2, rest⟩
  · exact .inl h0
  · exact .inr ⟨g, cap, cur, e1, by omega, rest⟩
theorem OwnN.mono {w : World} {base base' : Nat} {v : Value} {rows : List (Nd × Value)} (h : OwnN w base v rows) (hb : base' ≤ base) : OwnN w base' v rows := by
  refine ⟨⟨h.own.1, ?_⟩, fun r hr => (h.args r hr).mono hb, h.nils⟩
  rcases h.own.2 with h0 | ⟨g, cap, cur, e1, e2, rest⟩
  · exact .inl h0
  · exact .inr ⟨g, cap, cur, e1, by omega, rest⟩
theorem OwnG.nds {w : World} {base : Nat} {v : Value} {C : List Nd} (h : OwnG w base v C) (hC : VG C) (hl : C.length ≤ 140737488355328) : Nds w v C := by
  obtain ⟨rows, ho, rfl⟩ := h
  exact ho.nds (by simpa using hl) fun r hr => by
    have := valid_ar (hC _ (List.mem_map.2 ⟨r, hr, rfl⟩))
    omega
theorem OwnG.ext {w w' : World} {base : Nat} {v : Value} {C : List Nd} (h : OwnG w base v C) (k : Ext w w') : OwnG w' base v C := by
  obtain ⟨rows, ho, rfl⟩ := h
  exact ⟨rows, ho.ext k, rfl⟩
theorem OwnG.chg {S : Nat → Prop} {w w' : World} {base : Nat} {v : Value} {C : List Nd} (h : OwnG w base v C) (k : ChgS S w w') (hS : ∀ i, S i → i < base) : OwnG w' base v C := by
  obtain ⟨rows, ho, rfl⟩ := h
  exact ⟨rows, k.ownN ho (fun g hg e => by have := hS g e; have := (ho.block hg).1; omega) (fun r hr g hg e => by have := hS g e; have := ((ho.args r hr).block hg).1; omega), rfl⟩
theorem OwnG.shape {w : World} {base : Nat} {v : Value} {C : List Nd} (h : OwnG w base v C) : ∃ A c, v = .slice A C.length c ∧ C.length ≤ c := by
  obtain ⟨rows, ho, rfl⟩ := h
  simpa using ho.shape
theorem OwnG.nd {w : World} {base : Nat} {A : Option Addr} {n c : Nat} {C : List Nd} (h : OwnG w base (.slice A n c) C) (hC : VG C) (hl : C.length ≤ 140737488355328) : NdsRd w A C := by
  obtain ⟨A', c', e, _, hr⟩ := h.nds hC hl
  cases e
  exact hr
set_option maxRecDepth 100000 in
set_option maxHeartbeats 1000000 in
theorem least_any (G : List Nd) (hG : VG G) (root N : Nat) (hN : G.length = N) (A : Option Addr) (c : Nat) (w : World) (hr : NdsRd w A G) (hroot : root < N) (hmax : N ≤ 1000000) :
    Calls Tryz.prog 42 #[.agg #[.slice A N c, .int .i64 root]] w fun e w' => ∃ C v, e = .returned (.agg #[v, .int .i64 0]) ∧ OwnG w' w.heap.size v C ∧ Canon C (den G root) ∧ C.length ≤ N ∧ Ext w w' := by
  have hC : ∀ W, Ext w W → Calls Tryz.prog 60 #[.slice A N c] W _ := fun W hW => classes_any G A c N W (hr.ext hW) hG hN (by omega) hmax
  have HC := Lib.hid hC
  have HR := Lib.hid hr
  have HG := Lib.hid hG
  have HN := Lib.hid hN
  have hmm := mkMap82
  clear hC hr hG hN
  go_enter Tryz.func42, Tryz.ntmps42
  go_wp2_with fail
  refine (HC.out _ (((Ext.rfl' w).alloc _).alloc _)).mono ?_
  rintro e w1 ⟨bc, cls, rfl, r1, r2, r3, r4, r5, r6⟩
  have hsf := storeFunc
  have hs1 : w.heap.size + 2 ≤ w1.heap.size := by have := r3.size; simpa using this
  have hbc : w.heap.size + 2 ≤ bc := by simpa using r2
  have hbc2 : bc < w1.heap.size := r1.lt
  have hE : Ext w w1 := (((Ext.rfl' w).alloc _).alloc _).trans' r3
  have k1 : w1.cell? ⟨w.heap.size, 1, none⟩ = some (.int .i64 root) := r3.cell (by simp)
  have k0 : w1.cell? ⟨w.heap.size, 0, none⟩ = some (.slice A N c) := r3.cell (by simp)
  have k2 : w1.heap[w.heap.size + 1]? = some (.cells #[.slice none 0 0, .int .i64 0] 24 (0, 0)) := r3.heap (by
    have := heap_alloc_new (w.alloc (.cells #[.slice A N c, .int .i64 root] 24)) (.cells #[.slice none 0 0, .int .i64 0] 24)
    simpa using this)
  have f1 : ∀ o1 o2 o3 o4 o5, (((((w1.alloc o1).alloc o2).alloc o3).alloc o4).alloc o5).cell? ⟨w.heap.size, 1, none⟩ = some (.int .i64 root) := fun o1 o2 o3 o4 o5 =>
    ((((((Ext.rfl' w1).alloc o1).alloc o2).alloc o3).alloc o4).alloc o5).cell k1
  have R1 := Lib.hid r1
  have R4 := Lib.hid r4
  have R5 := Lib.hid r5
  have R6 := Lib.hid r6
  have HE := Lib.hid hE
  clear r1 r2 r3 r4 r5 r6 HC hE k1
  go_wp2_with fail
  clear f1 hsf hmm
  have ok := Pl.of_ok hs1 hbc hbc2
  have hfix := startW_fix (G := G) HE.out R1.out k0
  refine (visit_any G HG.out cls A N c HN.out hmax w HR.out (Pl.of w.heap.size w1.heap.size bc) ok R4.out R5.out N root (startW w1 w.heap.size bc N) [] [] (.slice none 0 0) (by simp) hroot hfix startW_st).mono ?_
  rintro e w6 ⟨k, outs, rows, v, rfl, hk, st, ch, d, pre, done, blk, new⟩
  have c0 : w6.cell? ⟨w1.heap.size + 1 + 1 + 1, 0, none⟩ = some v := by
    have := st.po
    simp only [Pl.of] at this
    simp [World.cell?, this]
  have c1 : w6.cell? ⟨w1.heap.size + 1 + 1 + 1, 1, none⟩ = some (.int .i64 0) := by
    have := st.po
    simp only [Pl.of] at this
    simp [World.cell?, this]
  have hno : ∀ i, i < w1.heap.size → ¬ LMay (Pl.of w.heap.size w1.heap.size bc) (.slice none 0 0) i := by
    rintro i hi (e | e | e)
    · simp only [Pl.of] at e; omega
    · simp only [Pl.of] at e; omega
    · simp [Value.ownBlock] at e
  have h2 : w6.heap[w.heap.size + 1]? = some (.cells #[.slice none 0 0, .int .i64 0] 24 (0, 0)) := ch.heap ((startW_ext w1 w.heap.size bc N).heap k2) (hno _ (by omega))
  have hE6 : Ext w w6 := (hfix.chg ok ch (by intro g hg; simp [Value.ownBlock] at hg)).ext
  have hown := st.own
  have hvo : ∀ g, v.ownBlock = some g → w1.heap.size ≤ g := fun g hg => by
    have := (hown.block hg).1
    simp only [Pl.of] at this
    omega
  obtain ⟨Av, cv, rfl, hcv⟩ := hown.shape
  have b0 : w6.cell? ⟨w.heap.size + 1, 0, none⟩ = some (.slice none 0 0) := by simp [World.cell?, h2]
  have b1 : w6.cell? ⟨w.heap.size + 1, 1, none⟩ = some (.int .i64 0) := by simp [World.cell?, h2]
  have b2 : ∀ i, w6.frozen? ⟨w.heap.size + 1, i, none⟩ = false := fun i => by simp [World.frozen?, h2]
  have h3 : (w6.setCell ⟨w.heap.size + 1, 0, none⟩ (.slice Av rows.length cv)).heap[w.heap.size + 1]? = some (.cells #[.slice Av rows.length cv, .int .i64 0] 24 (0, 0)) := heap_set0 _ h2
  have b3 : (w6.setCell ⟨w.heap.size + 1, 0, none⟩ (.slice Av rows.length cv)).cell? ⟨w.heap.size + 1, 1, none⟩ = some (.int .i64 0) := by simp [World.cell?, h3]
  have b4 : (w6.setCell ⟨w.heap.size + 1, 0, none⟩ (.slice Av rows.length cv)).frozen? ⟨w.heap.size + 1, 1, none⟩ = false := by simp [World.frozen?, h3]
  have h5 : ((w6.setCell ⟨w.heap.size + 1, 0, none⟩ (.slice Av rows.length cv)).setCell ⟨w.heap.size + 1, 1, none⟩ (.int .i64 0)).heap[w.heap.size + 1]? = some (.cells #[.slice Av rows.length cv, .int .i64 0] 24 (0, 0)) := by
    simp [World.setCell, Array.getElem?_modify, h2]
  have b5 : ((w6.setCell ⟨w.heap.size + 1, 0, none⟩ (.slice Av rows.length cv)).setCell ⟨w.heap.size + 1, 1, none⟩ (.int .i64 0)).cell? ⟨w.heap.size + 1, 0, none⟩ = some (.slice Av rows.length cv) := by simp [World.cell?, h5]
  have b6 : ((w6.setCell ⟨w.heap.size + 1, 0, none⟩ (.slice Av rows.length cv)).setCell ⟨w.heap.size + 1, 1, none⟩ (.int .i64 0)).cell? ⟨w.heap.size + 1, 1, none⟩ = some (.int .i64 0) := by simp [World.cell?, h5]
  have hL : rows.length ≤ N := by
    have := (canon_of_lst HG.out (by rw [HN.out]; exact R5.out) (by rw [HN.out]; exact R6.out) st done (by rw [HN.out]; exact hroot) d)
    have h1 := st.len
    have h2 := st.nodup.length_le_of_subset (l₂ := List.range N) fun x hx => by
      obtain ⟨j, hj, e⟩ := List.mem_map.1 hx
      have := R5.out j (by rw [← HN.out]; exact st.lt j hj)
      rw [List.mem_range]
      unfold ck at e; omega
    simp at h2
    omega
  have hcan : Canon (rows.map (·.1)) (den G root) := canon_of_lst HG.out (by rw [HN.out]; exact R5.out) (by rw [HN.out]; exact R6.out) st done (by rw [HN.out]; exact hroot) d
  have hnds : OwnG ((w6.setCell ⟨w.heap.size + 1, 0, none⟩ (.slice Av rows.length cv)).setCell ⟨w.heap.size + 1, 1, none⟩ (.int .i64 0)) w.heap.size (.slice Av rows.length cv) (rows.map (·.1)) := by
    have CS : ChgS (fun j => j = w.heap.size + 1) w6 ((w6.setCell ⟨w.heap.size + 1, 0, none⟩ (.slice Av rows.length cv)).setCell ⟨w.heap.size + 1, 1, none⟩ (.int .i64 0)) := ((ChgS.refl (fun j => j = w.heap.size + 1) w6).set (.inl rfl) _ _).set (.inl rfl) _ _
    have hO := CS.ownN st.own (fun g hg e => by have := hvo g hg; omega) (fun r hr g hg e => by have := ((st.own.args r hr).block hg).1; simp only [Pl.of] at this; omega)
    exact ⟨rows, hO.mono (by simp only [Pl.of]; omega), rfl⟩
  have HNDS := Lib.hid hnds
  have HCAN := Lib.hid hcan
  have HE6 := Lib.hid hE6
  have H5 := Lib.hid h5
  clear hno hfix ok k2 st ch d pre done blk new hk hown hE6 hvo h2 h5 h3 k0 hnds hcan
  go_wp2
  refine bodyPost_ret (results_cell1 rfl _ _ _ 24 _ (0, 0) _ rfl H5.out Tryz.underlying24 (by kernel_rfl)) rfl ?_
  refine ⟨_, _, rfl, HNDS.out, HCAN.out, by simpa using hL, ?_⟩
  exact (HE6.out.setNew (by show w.heap.size ≤ w.heap.size + 1; omega) _).setNew (by show w.heap.size ≤ w.heap.size + 1; omega) _
end Go.Proofs.YtnleljpebnnhfaaGreatDoor

set_option linter.unusedSimpArgs false
set_option linter.unusedVariables false
namespace Go.Proofs.YtnleljpebnnhfaaGreatDoor
open Go.RowKit
/-- What validity says. -/
theorem validT_iff {G : List Nd} {root : Int} : validT G root = true ↔ 1 ≤ G.length ∧ G.length ≤ 8000 ∧ 0 ≤ root ∧ root < G.length ∧ VG G := by
  simp [validT, VG, and_assoc]
theorem results_cell_tmp1 {fn : Func} {p u : Tmp} {ty : TypeId} (h : fn.results = #[.cell p ty, .tmp u]) (tmps : Array Value) (w : World) (g : Nat) (t : TypeId) (cs : Array Value) (fr : Nat × Nat) (fs : Array Field) (hp : tmps.getD p undef = .pointer (some ⟨g, 0, none⟩)) (hg : w.heap[g]? = some (.cells cs t fr))
    (hu : Tryz.prog.underlying ty = some (.struct fs)) (hi : (Tryz.prog.info? ty).map (·.size) = some cs.size) : (results fn tmps).run Tryz.prog w = .ok (.tuple #[.agg cs, tmps.getD u undef]) w := by
  have hl := run_loadVar_row (P := Tryz.prog) w g t ty cs fr (.struct fs) hg hu rfl hi
  rw [results_cell_tmp h, hp]
  simp [asAddr, hl, Result.andThen]
theorem heap_set1 {w : World} {b : Nat} {x y : Value} {t : TypeId} (v : Value) (h : w.heap[b]? = some (.cells #[x, y] t (0, 0))) : (w.setCell ⟨b, 1, none⟩ v).heap[b]? = some (.cells #[x, v] t (0, 0)) := by
  simp [World.setCell, Array.getElem?_modify, h]
theorem Nds.chg {S : Nat → Prop} {w w' : World} {v : Value} {C : List Nd} (h : Nds w v C) (k : Ext w w') : Nds w' v C := h.ext k
/-- A two-cell box is filled; what was there before the box stays. -/
theorem box_fill {w0 w : World} {b : Nat} {x y u v : Value} (hE : Ext w0 w) (hb : w0.heap.size ≤ b) (h : w.heap[b]? = some (.cells #[x, y] 24 (0, 0))) :
    ((w.setCell ⟨b, 0, none⟩ u).setCell ⟨b, 1, none⟩ v).heap[b]? = some (.cells #[u, v] 24 (0, 0)) ∧ Ext w0 ((w.setCell ⟨b, 0, none⟩ u).setCell ⟨b, 1, none⟩ v) :=
  ⟨heap_set1 _ (heap_set0 _ h), (hE.setNew hb _).setNew hb _⟩
/-- What a walk asks of a two-cell box that is filled. -/
theorem box_facts {w : World} {b : Nat} {x y : Value} (h : w.heap[b]? = some (.cells #[x, y] 24 (0, 0))) :
    w.cell? ⟨b, 0, none⟩ = some x ∧ w.cell? ⟨b, 1, none⟩ = some y ∧ (∀ i, w.frozen? ⟨b, i, none⟩ = false) ∧ (∀ u, (w.setCell ⟨b, 0, none⟩ u).cell? ⟨b, 1, none⟩ = some y) ∧ ∀ u i, (w.setCell ⟨b, 0, none⟩ u).frozen? ⟨b, i, none⟩ = false :=
  ⟨by simp [World.cell?, h], by simp [World.cell?, h], fun i => by simp [World.frozen?, h], fun u => by simp [World.cell?, heap_set0 u h], fun u i => by simp [World.frozen?, heap_set0 u h]⟩
/-- What Least hands back. -/
def LeastPost (G : List Nd) (root : Int) (w : World) (e : Ending) (w' : World) : Prop :=
  if validT G root then ∃ C v, e = .returned (.tuple #[.agg #[v, .int .i64 0], .int .i64 0]) ∧ OwnG w' w.heap.size v C ∧ Canon C (den G root.toNat) ∧ C.length ≤ G.length ∧ Ext w w'
  else e = .returned (.tuple #[.agg #[.slice none 0 0, .int .i64 0], .int .i64 2]) ∧ Ext w w'
set_option maxRecDepth 100000 in
theorem Least_any (G : List Nd) (root : Int) (A : Option Addr) (c N : Nat) (w : World) (hr : NdsRd w A G) (hroot : root ≤ 9223372036854775807) (hN : G.length = N) :
    Calls Tryz.prog 27 #[.agg #[.slice A N c, .int .i64 root]] w (LeastPost G root w) := by
  have hval : ∀ W, Ext w W → Calls Tryz.prog 38 #[.agg #[.slice A N c, .int .i64 root]] W fun e w' => e = .returned (.bool (validT G root)) ∧ Ext W w' := fun W hW => by
    have := valid_any G root A c W (hr.ext hW) hroot
    rwa [hN] at this
  have HV := Lib.hid hval
  have HR := Lib.hid hr
  have HN := Lib.hid hN
  clear hval hr hN
  cases hvt : validT G root with
  | false =>
    go_enter Tryz.func27, Tryz.ntmps27
    go_wp2_with fail
    refine (HV.out _ (((Ext.rfl' _).alloc _).alloc _)).mono ?_
    rw [hvt]
    rintro e w1 ⟨rfl, hx⟩
    have hb : w1.heap[w.heap.size + 1]? = some (.cells #[.slice none 0 0, .int .i64 0] 24 (0, 0)) := hx.heap (new_heap _ _ _ (by simp))
    have hE : Ext w w1 := (((Ext.rfl' w).alloc _).alloc _).trans' hx
    obtain ⟨b1, b2, b3, b4, b5⟩ := box_facts hb
    have HB := Lib.hid hb
    have HE := Lib.hid hE
    clear hb hE hx
    go_wp2
    obtain ⟨h1, h2⟩ := box_fill (u := .slice none 0 0) (v := .int .i64 0) HE.out (by show w.heap.size ≤ w.heap.size + 1; omega) HB.out
    refine bodyPost_ret (results_cell_tmp1 rfl _ _ _ 24 _ (0, 0) _ rfl h1 Tryz.underlying24 (by kernel_rfl)) rfl ?_
    unfold LeastPost
    rw [hvt]
    exact ⟨rfl, h2⟩
  | true =>
    obtain ⟨v1, v2, v3, v4, v5⟩ := validT_iff.1 hvt
    obtain ⟨r, rfl⟩ := Int.eq_ofNat_of_zero_le v3
    have hrN : r < N := by rw [HN.out] at v4; omega
    have hle : ∀ W, Ext w W → Calls Tryz.prog 42 #[.agg #[.slice A N c, .int .i64 r]] W _ := fun W hW => least_any G v5 r N HN.out A c W (HR.out.ext hW) hrN (by rw [← HN.out]; omega)
    have HL := Lib.hid hle
    have HVT := Lib.hid hvt
    clear hle v1 v2 v3 v4 v5
    go_enter Tryz.func27, Tryz.ntmps27
    go_wp2_with fail
    refine (HV.out _ (((Ext.rfl' _).alloc _).alloc _)).mono ?_
    rw [HVT.out]
    rintro e w1 ⟨rfl, hx⟩
    have hb : w1.heap[w.heap.size + 1]? = some (.cells #[.slice none 0 0, .int .i64 0] 24 (0, 0)) := hx.heap (new_heap _ _ _ (by simp))
    have hE : Ext w w1 := (((Ext.rfl' w).alloc _).alloc _).trans' hx
    have b8 : w1.cell? ⟨w.heap.size, 0, none⟩ = some (.slice A N c) := hx.cell (by simp)
    have b9 : w1.cell? ⟨w.heap.size, 1, none⟩ = some (.int .i64 r) := hx.cell (by simp)
    have HB := Lib.hid hb
    have HE := Lib.hid hE
    clear hb hE hx
    go_wp2_with fail
    refine (HL.out _ HE.out).mono ?_
    rintro e w2 ⟨C, v, rfl, n1, n2, n3, n4⟩
    have hb : w2.heap[w.heap.size + 1]? = some (.cells #[.slice none 0 0, .int .i64 0] 24 (0, 0)) := n4.heap HB.out
    obtain ⟨Av, cv, rfl, hcv⟩ := n1.shape
    have hsz1 : w.heap.size + 2 ≤ w1.heap.size := by have := (World.block_lt_of_cell? w1 _ b8); have h2 := (Array.getElem?_eq_some_iff.1 HB.out).1; omega
    have hE : Ext w w2 := HE.out.trans' n4
    obtain ⟨b1, b2, b3, b4, b5⟩ := box_facts hb
    have HB2 := Lib.hid hb
    have HE2 := Lib.hid hE
    have N1 := Lib.hid n1
    have N2 := Lib.hid n2
    have N3 := Lib.hid n3
    clear hb hE n1 n2 n3 n4 b8 b9 HB HE
    go_wp2
    obtain ⟨h1, h2⟩ := box_fill (u := .slice Av C.length cv) (v := .int .i64 0) HE2.out (by show w.heap.size ≤ w.heap.size + 1; omega) HB2.out
    refine bodyPost_ret (results_cell_tmp1 rfl _ _ _ 24 _ (0, 0) _ rfl h1 Tryz.underlying24 (by kernel_rfl)) rfl ?_
    unfold LeastPost
    rw [HVT.out]
    have CS : ChgS (fun j => j = w.heap.size + 1) w2 ((w2.setCell ⟨w.heap.size + 1, 0, none⟩ (.slice Av C.length cv)).setCell ⟨w.heap.size + 1, 1, none⟩ (.int .i64 0)) := ((ChgS.refl (fun j => j = w.heap.size + 1) w2).set (.inl rfl) _ _).set (.inl rfl) _ _
    obtain ⟨rows, ho, hC⟩ := N1.out.chg CS (by rintro i rfl; omega)
    exact ⟨C, _, rfl, ⟨rows, ho.mono (by omega), hC⟩, by simpa using N2.out, by have := N3.out; have := HN.out; omega, h2⟩
end Go.Proofs.YtnleljpebnnhfaaGreatDoor

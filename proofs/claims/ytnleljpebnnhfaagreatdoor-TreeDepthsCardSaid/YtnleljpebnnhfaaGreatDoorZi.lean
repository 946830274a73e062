/- The visit of Cut of package tree. -/
import Derived.Test.YtnleljpebnnhfaaGreatDoorZb
import Derived.Test.YtnleljpebnnhfaaGreatDoorZh

set_option linter.unusedSimpArgs false
set_option linter.unusedVariables false
namespace Go.Proofs.YtnleljpebnnhfaaGreatDoor
open Go.RowKit
/-- A key of the map. -/
def kI (p : Nat × Nat) : Int × Int := ((p.1 : Int), (p.2 : Int))
theorem kI_inj {p q : Nat × Nat} (h : kI p = kI q) : p = q := by
  obtain ⟨a, b⟩ := p
  obtain ⟨c, d⟩ := q
  simp [kI] at h
  simp
  omega
/-- The map from nodes and levels to numbers. -/
def pairsK (outs : List (Nat × Nat)) : List ((Int × Int) × Int) := outs.zipIdx.map fun p => (kI p.1, (p.2 : Int))
theorem pairsK_snoc (outs : List (Nat × Nat)) (p : Nat × Nat) : pairsK (outs ++ [p]) = pairsK outs ++ [(kI p, (outs.length : Int))] := by
  simp [pairsK, List.zipIdx_append]
theorem mem_pairsK {outs : List (Nat × Nat)} {x : Int × Int} {y : Int} : (x, y) ∈ pairsK outs ↔ ∃ k, ∃ h : k < outs.length, x = kI outs[k] ∧ y = (k : Int) := by
  simp only [pairsK, List.mem_map]
  constructor
  · rintro ⟨⟨a, b⟩, hp, e⟩
    obtain ⟨h1, h2⟩ := Prod.mk.inj e
    have := List.mem_zipIdx hp
    obtain ⟨_, hb, ha⟩ := this
    simp at hb ha
    exact ⟨b, hb, by rw [← h1, ha], h2.symm⟩
  · rintro ⟨k, hk, rfl, rfl⟩
    exact ⟨(outs[k], k), List.mem_zipIdx_iff_getElem?.2 (by simp [hk]), rfl⟩
theorem pairsK_look {outs : List (Nat × Nat)} {p : Nat × Nat} {v : Int} (h : look (pairsK outs) (kI p) = some v) : ∃ k, ∃ h : k < outs.length, v = (k : Int) ∧ outs[k] = p := by
  obtain ⟨k, hk, e1, e2⟩ := mem_pairsK.1 (mem_of_look h)
  exact ⟨k, hk, e2, kI_inj e1.symm⟩
theorem pairsK_none {outs : List (Nat × Nat)} {p : Nat × Nat} (h : look (pairsK outs) (kI p) = none) : p ∉ outs := by
  intro hj
  obtain ⟨k, hk, rfl⟩ := List.mem_iff_getElem.1 hj
  exact look_none.1 h (List.mem_map.2 ⟨(kI outs[k], (k : Int)), mem_pairsK.2 ⟨k, hk, rfl, rfl⟩, rfl⟩)
theorem pairsK_ins {outs : List (Nat × Nat)} {p : Nat × Nat} (h : look (pairsK outs) (kI p) = none) : ins (pairsK outs) (kI p) (outs.length : Int) = pairsK (outs ++ [p]) := by
  rw [pairsK_snoc]; simp [ins, h]
/-- Where the visit's things lie. -/
structure KPl where
  pl : Nat
  pm : Nat
  po : Nat
  pv : Nat
  bm : Nat
  M : Nat
def KPl.caps (L : KPl) : Array Value := #[.pointer (some ⟨L.pl, 0, none⟩), .pointer (some ⟨L.pm, 0, none⟩), .pointer (some ⟨L.po, 0, none⟩), .pointer (some ⟨L.pv, 0, none⟩)]
structure KPl.Ok (L : KPl) (B : Nat) : Prop where
  po : B ≤ L.po ∧ L.po < L.M
  bm : B ≤ L.bm ∧ L.bm < L.M
  pl : L.pl < L.M ∧ L.pl ≠ L.po ∧ L.pl ≠ L.bm
  pm : L.pm < L.M ∧ L.pm ≠ L.po ∧ L.pm ≠ L.bm
  pv : L.pv < L.M ∧ L.pv ≠ L.po ∧ L.pv ≠ L.bm
  two : L.po ≠ L.bm
structure KFix (A : Option Addr) (N c : Nat) (w0 : World) (L : KPl) (w : World) : Prop where
  ext : Ext w0 w
  cl : w.cell? ⟨L.pl, 0, none⟩ = some (.slice A N c)
  cm : w.cell? ⟨L.pm, 0, none⟩ = some (.map (some L.bm))
  cv : w.cell? ⟨L.pv, 0, none⟩ = some (.func (.func 46) #[] L.caps)
  size : L.M ≤ w.heap.size
def KMay (L : KPl) (v : Value) (i : Nat) : Prop := i = L.po ∨ i = L.bm ∨ v.ownBlock = some i
theorem KFix.chg {A : Option Addr} {N c : Nat} {w0 : World} {L : KPl} (ok : L.Ok w0.heap.size) {w w' : World} {v : Value} (h : KFix A N c w0 L w) (k : ChgS (KMay L v) w w') (hv : ∀ g, v.ownBlock = some g → L.M ≤ g) : KFix A N c w0 L w' := by
  have hno : ∀ i, i < L.M → i ≠ L.po → i ≠ L.bm → ¬ KMay L v i := by
    rintro i h1 h2 h3 (e | e | e)
    · exact h2 e
    · exact h3 e
    · have := hv i e; omega
  refine ⟨?_, k.cell h.cl (hno _ ok.pl.1 ok.pl.2.1 ok.pl.2.2), k.cell h.cm (hno _ ok.pm.1 ok.pm.2.1 ok.pm.2.2), k.cell h.cv (hno _ ok.pv.1 ok.pv.2.1 ok.pv.2.2), Nat.le_trans h.size k.size⟩
  refine k.extOf h.ext ?_
  rintro i (e | e | e)
  · rw [e]; exact ok.po.1
  · rw [e]; exact ok.bm.1
  · have := hv i e
    have := ok.po
    omega
theorem KFix.of_ext {A : Option Addr} {N c : Nat} {w0 : World} {L : KPl} {w w' : World} (h : KFix A N c w0 L w) (k : Ext w w') : KFix A N c w0 L w' :=
  ⟨h.ext.trans' k, k.cell h.cl, k.cell h.cm, k.cell h.cv, Nat.le_trans h.size k.size⟩
/-- Where the visit stands. -/
structure KSt (G : List Nd) (L : KPl) (w : World) (outs : List (Nat × Nat)) (rows : List (Nd × Value)) (v : Value) : Prop where
  po : w.heap[L.po]? = some (.cells #[v, .int .i64 0] 24 (0, 0))
  map : MapIs pairV FitsP iv w L.bm (pairsK outs)
  own : OwnN w L.M v rows
  len : rows.length = outs.length
  tops : ∀ k (h : k < rows.length) (h' : k < outs.length), rows[k].1.kind = (cutNode G outs[k]).kind ∧ rows[k].1.num = (cutNode G outs[k]).num ∧ rows[k].1.label = (cutNode G outs[k]).label
  nodup : outs.Nodup
  lt : ∀ x ∈ outs, x.1 < G.length ∧ x.2 ≤ 12 ∧ cutNorm G x = x
theorem KSt.of_ext {G : List Nd} {L : KPl} {w w' : World} {outs : List (Nat × Nat)} {rows : List (Nd × Value)} {v : Value} (h : KSt G L w outs rows v) (k : Ext w w') : KSt G L w' outs rows v :=
  ⟨k.heap h.po, h.map.ext k, h.own.ext k, h.len, h.tops, h.nodup, h.lt⟩
theorem KSt.le {G : List Nd} {L : KPl} {w : World} {outs : List (Nat × Nat)} {rows : List (Nd × Value)} {v : Value} (h : KSt G L w outs rows v) : outs.length ≤ G.length * 13 := by
  have hnd : (outs.map fun p => p.1 * 13 + p.2).Nodup := by
    rw [List.Nodup, List.pairwise_map]
    refine h.nodup.imp_of_mem fun {a b} ha hb hne e => hne ?_
    have h1 := h.lt a ha
    have h2 := h.lt b hb
    obtain ⟨a1, a2⟩ := a
    obtain ⟨b1, b2⟩ := b
    simp at h1 h2 e ⊢
    omega
  have := hnd.length_le_of_subset (l₂ := List.range (G.length * 13)) fun x hx => by
    obtain ⟨p, hp, rfl⟩ := List.mem_map.1 hx
    have h1 := h.lt p hp
    rw [List.mem_range]
    omega
  simpa using this
/-- The nodes from number a on have their arguments. -/
def KDone (G : List Nd) (outs : List (Nat × Nat)) (rows : List (Nd × Value)) (a : Nat) : Prop :=
  ∀ k, a ≤ k → ∀ (h : k < rows.length) (h' : k < outs.length), All2 (fun (m : Int) (x : Nat × Nat) => ∃ j, ∃ h : j < outs.length, m = (j : Int) ∧ outs[j] = x) rows[k].1.args (cutKids G outs[k])
theorem KDone.more {G : List Nd} {outs outs' : List (Nat × Nat)} {rows rows' : List (Nd × Value)} {a : Nat} (h : KDone G outs rows a) (ho : ∃ m, outs' = outs ++ m) (hr : rows'.take rows.length = rows) (hl : rows.length = outs.length) (h' : KDone G outs' rows' outs.length) : KDone G outs' rows' a := by
  obtain ⟨m, rfl⟩ := ho
  obtain ⟨n, rfl⟩ := take_pre hr
  intro k h1 h2 h3
  by_cases hk : k < rows.length
  · have hk' : k < outs.length := by omega
    have := h k h1 hk hk'
    rw [List.getElem_append_left hk, List.getElem_append_left hk']
    exact this.imp fun x y _ _ ⟨j, hj, e1, e2⟩ => ⟨j, by simp; omega, e1, by rw [List.getElem_append_left hj]; exact e2⟩
  · exact h' k (by omega) h2 h3
/-- What a visit leaves. -/
def KPost (G : List Nd) (L : KPl) (w : World) (p : Nat × Nat) (outs : List (Nat × Nat)) (rows : List (Nd × Value)) (v : Value) (e : Ending) (w' : World) : Prop :=
  ∃ (k : Nat) (outs' : List (Nat × Nat)) (rows' : List (Nd × Value)) (v' : Value), e = .returned (.int .i64 k) ∧ (∃ h : k < outs'.length, outs'[k] = p) ∧ KSt G L w' outs' rows' v' ∧ ChgS (KMay L v) w w' ∧ (∃ m, outs' = outs ++ m) ∧
      rows'.take rows.length = rows ∧ KDone G outs' rows' outs.length ∧ (v'.ownBlock = v.ownBlock ∨ ∀ g, v'.ownBlock = some g → w.heap.size ≤ g) ∧ (∀ r ∈ rows'.drop rows.length, ∀ g, r.2.ownBlock = some g → w.heap.size ≤ g) ∧ (p ∉ outs → k = outs.length)
theorem KMay.mono {L : KPl} {v v' : Value} {n i : Nat} (h : v'.ownBlock = v.ownBlock ∨ ∀ g, v'.ownBlock = some g → n ≤ g) (hi : i < n) (hm : KMay L v' i) : KMay L v i := by
  rcases hm with e | e | e
  · exact .inl e
  · exact .inr (.inl e)
  · rcases h with h | h
    · exact .inr (.inr (by rw [← h]; exact e))
    · have := h i e; omega
theorem fitsP_k {p : Nat × Nat} (h1 : p.1 ≤ 1000000) (h2 : p.2 ≤ 12) : FitsP (kI p) := ⟨fits_of (by simp only [kI]; omega) (by simp only [kI]; omega), fits_of (by simp only [kI]; omega) (by simp only [kI]; omega)⟩
theorem pairV_k (i l : Nat) : pairV (kI (i, l)) = .agg #[.int .i64 i, .int .i64 l] := rfl
end Go.Proofs.YtnleljpebnnhfaaGreatDoor

set_option linter.unusedSimpArgs false
set_option linter.unusedVariables false
set_option linter.unusedSectionVars false
namespace Go.Proofs.YtnleljpebnnhfaaGreatDoor
open Go.RowKit
/-- Nodes without arguments hold a nil slice. -/
def NilA (w : World) (A : Option Addr) (G : List Nd) : Prop := ∀ i b o, A = some ⟨b, o, none⟩ → i < G.length → (nd G i).args = [] → w.cell? ⟨b, o + i * 4 + 3, none⟩ = some (.slice none 0 0)
theorem NilA.ext {w w' : World} {A : Option Addr} {G : List Nd} (h : NilA w A G) (k : Ext w w') : NilA w' A G := fun i b o e hi ha => k.cell (h i b o e hi ha)
theorem nilA_of_own {w : World} {base : Nat} {A : Option Addr} {n c : Nat} {C : List Nd} (h : OwnG w base (.slice A n c) C) : NilA w A C := by
  obtain ⟨rows, ho, rfl⟩ := h
  intro i b o e hi ha
  have hi' : i < rows.length := by simpa using hi
  obtain ⟨g, cap, cur, e2, _⟩ := ho.at (by omega)
  subst e
  simp only [Value.slice.injEq, Option.some.injEq, Addr.mk.injEq] at e2
  obtain ⟨⟨rfl, rfl, _⟩, _⟩ := e2
  have hc := (ho.cell (g := b) (by rfl) i hi').2.2.2
  have hn : nd (rows.map (·.1)) i = rows[i].1 := by rw [nd_eq hi]; simp
  rw [hn] at ha
  rw [Nat.zero_add, hc, ho.nils _ (List.getElem_mem hi') ha]
theorem cutNorm_left {G : List Nd} {i l : Nat} (h : (nd G i).kind = 3) : cutNorm G (i, l) = (i, l) := by unfold cutNorm; rw [if_pos h]
theorem cutNorm_leaf {G : List Nd} {i l : Nat} (h : (nd G i).kind ≠ 3) : cutNorm G (i, l) = (i, 0) := by unfold cutNorm; rw [if_neg h]
theorem cutNorm_idem (G : List Nd) (p : Nat × Nat) : cutNorm G (cutNorm G p) = cutNorm G p := by
  unfold cutNorm
  by_cases h : (nd G p.1).kind = 3
  · simp [h]
  · simp [h]
theorem box4_0 {w : World} {b : Nat} {x0 x1 x2 x3 : Value} {t : TypeId} (u : Value) (h : w.heap[b]? = some (.cells #[x0, x1, x2, x3] t (0, 0))) : (w.setCell ⟨b, 0, none⟩ u).heap[b]? = some (.cells #[u, x1, x2, x3] t (0, 0)) := by
  simp [World.setCell, Array.getElem?_modify, h]
theorem box4_1 {w : World} {b : Nat} {x0 x1 x2 x3 : Value} {t : TypeId} (u : Value) (h : w.heap[b]? = some (.cells #[x0, x1, x2, x3] t (0, 0))) : (w.setCell ⟨b, 1, none⟩ u).heap[b]? = some (.cells #[x0, u, x2, x3] t (0, 0)) := by
  simp [World.setCell, Array.getElem?_modify, h]
theorem box4_2 {w : World} {b : Nat} {x0 x1 x2 x3 : Value} {t : TypeId} (u : Value) (h : w.heap[b]? = some (.cells #[x0, x1, x2, x3] t (0, 0))) : (w.setCell ⟨b, 2, none⟩ u).heap[b]? = some (.cells #[x0, x1, u, x3] t (0, 0)) := by
  simp [World.setCell, Array.getElem?_modify, h]
theorem box4_3 {w : World} {b : Nat} {x0 x1 x2 x3 : Value} {t : TypeId} (u : Value) (h : w.heap[b]? = some (.cells #[x0, x1, x2, x3] t (0, 0))) : (w.setCell ⟨b, 3, none⟩ u).heap[b]? = some (.cells #[x0, x1, x2, u] t (0, 0)) := by
  simp [World.setCell, Array.getElem?_modify, h]
/-- The box of node i. -/
def kbox (G : List Nd) (i : Nat) (A1 : Option Addr) (c1 : Nat) : Obj := .cells #[.int .i64 (nd G i).kind, .int .i64 (nd G i).num, .string (nd G i).label, .slice A1 (nd G i).args.length c1] 46
section
variable (G : List Nd) (hG : VG G) (A : Option Addr) (N c : Nat) (hN : G.length = N) (hmax : N ≤ 60000) (w0 : World) (hr : NdsRd w0 A G) (hnil : NilA w0 A G) (L : KPl) (ok : L.Ok w0.heap.size)
  (i l : Nat) (w : World) (outs : List (Nat × Nat)) (rows : List (Nd × Value)) (v : Value) (hi : i < N) (hl : l ≤ 12) (hfix : KFix A N c w0 L w) (hst : KSt G L w outs rows v)
include hN hmax hr hi hl hfix hst
set_option maxRecDepth 100000 in
set_option maxHeartbeats 1000000 in
theorem kvisit_seen (u : Int) (hlk : look (pairsK outs) (kI (cutNorm G (i, l))) = some u) :
    Calls Tryz.prog 46 (#[.int .i64 i, .int .i64 l] ++ L.caps) w (KPost G L w (cutNorm G (i, l)) outs rows v) := by
  obtain ⟨b, o, hA, A1, c1, q0, q1, q2, q3, q4, q5⟩ := hr.get (i := i) (by omega)
  have p0 := hfix.ext.cell q0
  have p1 := hfix.ext.cell q1
  have p2 := hfix.ext.cell q2
  have p3 := hfix.ext.cell q3
  have hx1 : Ext w (w.alloc (kbox G i A1 c1)) := (Ext.rfl' _).alloc _
  have hm1 := hst.map.ext hx1
  have f1 := hfix.cl
  have f2 := hx1.cell hfix.cm
  have hfits : FitsP (kI (cutNorm G (i, l))) := fitsP_k (by unfold cutNorm; split <;> simp <;> omega) (by unfold cutNorm; split <;> simp; omega)
  have hlook := hm1.lookup kl70 und68 zero3 hfits true
  rw [hlk] at hlook
  obtain ⟨k, hk, rfl, hk2⟩ := pairsK_look hlk
  have HST := Lib.hid hst
  have HX1 := Lib.hid hx1
  have HK2 := Lib.hid hk2
  clear hm1 hfits hst hfix hr q0 q1 q2 q3 q4 q5 hlk hk2 hx1
  subst hA
  unfold kbox at f2
  have hfin : ∀ W, Ext w W → KPost G L w (cutNorm G (i, l)) outs rows v (.returned (.int .i64 (k : Int))) W := fun W hW =>
    ⟨k, outs, rows, v, rfl, ⟨hk, HK2.out⟩, HST.out.of_ext hW, ChgS.of_ext hW, ⟨[], by simp⟩, by simp, fun j h1 h2 h3 => by have := HST.out.len; omega, .inl rfl, by simp, fun h => absurd (by rw [← HK2.out]; exact List.getElem_mem hk) h⟩
  have HFIN := Lib.hid hfin
  clear hfin
  by_cases h3 : (nd G i).kind = 3
  · have d1 : ((nd G i).kind != 3) = false := by simp [h3]
    rw [cutNorm_left h3] at hlook
    have hrun : (Instr.lookup 68 (.map (some L.bm)) (.agg #[.int .i64 i, .int .i64 l]) true).run Tryz.prog (w.alloc (kbox G i A1 c1)) = .ok (.tuple #[.int .i64 k, .bool true]) (w.alloc (kbox G i A1 c1)) := hlook
    unfold kbox at hrun
    clear hlook h3
    unfold KPl.caps
    go_enter Tryz.func46, Tryz.ntmps46
    go_wp2
    go_ret
    exact HFIN.out _ ((Ext.rfl' _).alloc _)
  · have d1 : ((nd G i).kind != 3) = true := by simp [h3]
    rw [cutNorm_leaf h3] at hlook
    have hrun : (Instr.lookup 68 (.map (some L.bm)) (.agg #[.int .i64 i, .int .i64 0]) true).run Tryz.prog (w.alloc (kbox G i A1 c1)) = .ok (.tuple #[.int .i64 k, .bool true]) (w.alloc (kbox G i A1 c1)) := hlook
    unfold kbox at hrun
    clear hlook h3
    unfold KPl.caps
    go_enter Tryz.func46, Tryz.ntmps46
    go_wp2
    go_ret
    exact HFIN.out _ ((Ext.rfl' _).alloc _)
include hG hnil ok
/-- What stands behind the append of a node. -/
structure KApp (p : Nat × Nat) (v' : Value) (w' : World) : Prop where
  st : KSt G L w' (outs ++ [p]) (rows ++ [(cutNode G p, .slice none 0 0)]) v'
  fix : KFix A N c w0 L w'
  chg : ChgS (KMay L v) w w'
  blk : v'.ownBlock = v.ownBlock ∨ ∀ g, v'.ownBlock = some g → w.heap.size ≤ g
theorem kapp_of {p : Nat × Nat} (hp : p.1 < G.length ∧ p.2 ≤ 12 ∧ cutNorm G p = p) (hni : p ∉ outs) {w2 w2' w3 : World} {v' : Value} (C2 : ChgS (fun j => j = L.bm ∨ w.heap.size ≤ j) w w2) (hM : MapIs pairV FitsP iv w2 L.bm (pairsK (outs ++ [p]))) (C2' : ChgS (fun j => j = w.heap.size) w2 w2')
    (hown3 : OwnN w3 L.M v' (rows ++ [(cutNode G p, .slice none 0 0)])) (hgr : w2'.grownBy w3 v.ownBlock) (hat : v'.ownBlock = v.ownBlock ∨ v'.ownBlock = some w2'.heap.size) :
    KApp G A N c w0 L w outs rows v p v' (w3.setCell ⟨L.po, 0, none⟩ v') := by
  have hvM : ∀ g, v.ownBlock = some g → L.M ≤ g := fun g hg => (hst.own.block hg).1
  have hMw := hfix.size
  have hpo := ok.po
  have hbm := ok.bm
  have C23 : ChgS (fun j => j = w.heap.size ∨ v.ownBlock = some j) w2 w3 := (C2'.mono fun _ _ h => .inl h).grown hgr fun j hj => .inl (.inr hj)
  have C3' : ChgS (fun j => (j = L.bm ∨ v.ownBlock = some j) ∨ w.heap.size ≤ j) w w3 := (C2.mono fun j hj h => by rcases h with h | h; exact .inl (.inl h); exact .inr h).trans (T := fun j => j = w.heap.size ∨ v.ownBlock = some j) C23 fun j hj h => by rcases h with h | h; exact .inr (by omega); exact .inl (.inr h)
  have hpo3 : w3.heap[L.po]? = some (.cells #[v, .int .i64 0] 24 (0, 0)) := C3'.heap hst.po (by
    rintro ((h | h) | h)
    · exact ok.two h
    · have := hvM _ h; omega
    · omega)
  have hm3 : MapIs pairV FitsP iv w3 L.bm (pairsK (outs ++ [p])) := C23.map hM (by
    rintro (h | h)
    · omega
    · have := hvM _ h; omega)
  have hCpo : ChgS (fun j => j = L.po) w3 (w3.setCell ⟨L.po, 0, none⟩ v') := (ChgS.refl (fun j => j = L.po) w3).set (.inl rfl) 0 v'
  have hlow : ∀ g, v'.ownBlock = some g → L.M ≤ g := fun g hg => (hown3.block hg).1
  have hown4 := hCpo.ownN hown3 (fun g hg e => by have := hlow g hg; omega) (fun r hr g hg e => by have := ((hown3.args r hr).block hg).1; omega)
  have C4 : ChgS (KMay L v) w (w3.setCell ⟨L.po, 0, none⟩ v') := (C3'.mono (T := fun j => KMay L v j ∨ w.heap.size ≤ j) fun j hj h => by
    rcases h with (h | h) | h
    · exact .inl (.inr (.inl h))
    · exact .inl (.inr (.inr h))
    · exact .inr h).set (.inl (.inl (.inl rfl))) 0 v' |>.mono fun j hj h => by
      rcases h with h | h
      · exact h
      · omega
  refine ⟨⟨heap_set0 _ hpo3, hCpo.map hm3 (Ne.symm ok.two), hown4, by simp [hst.len], ?_, ?_, ?_⟩, hfix.chg ok C4 hvM, C4, ?_⟩
  · intro k h h'
    by_cases hk : k < rows.length
    · have hk' : k < outs.length := by have := hst.len; omega
      have := hst.tops k hk hk'
      rw [List.getElem_append_left hk, List.getElem_append_left hk']
      exact this
    · have hk' : ¬ k < outs.length := by have := hst.len; omega
      rw [List.getElem_append_right (by omega), List.getElem_append_right (by omega)]
      simp
  · rw [List.nodup_append]
    refine ⟨hst.nodup, by simp, fun a ha b hb e => ?_⟩
    have hb' : b = p := by simpa using hb
    exact hni (by rw [← hb', ← e]; exact ha)
  · intro x hx
    rcases List.mem_append.1 hx with hx | hx
    · exact hst.lt x hx
    · have : x = p := by simpa using hx
      rw [this]; exact hp
  · refine hat.imp id fun h g hg => ?_
    rw [h] at hg
    have := Option.some.inj hg
    have := C2.size
    have := C2'.size
    omega
theorem kpost_leaf {p : Nat × Nat} {v' : Value} {w' : World} (h : KApp G A N c w0 L w outs rows v p v' w') (hk : cutKids G p = []) (ha : (cutNode G p).args = []) : KPost G L w p outs rows v (.returned (.int .i64 (outs.length : Int))) w' := by
  refine ⟨outs.length, outs ++ [p], _, v', rfl, ⟨by simp, by simp⟩, h.st, h.chg, ⟨[p], rfl⟩, by simp, ?_, h.blk, ?_, fun _ => rfl⟩
  · intro k h1 h2 h3
    have hkk : k = outs.length := by simp at h3; omega
    subst hkk
    have e1 : (rows ++ [((cutNode G p), Value.slice none 0 0)])[outs.length]'h2 = (cutNode G p, Value.slice none 0 0) := by
      rw [List.getElem_append_right (by have := hst.len; omega)]
      simp
    have e2 : (outs ++ [p])[outs.length]'h3 = p := by simp
    rw [e1, e2, hk, ha]
    exact .nil
  · intro r hr g hg
    simp at hr
    rw [hr] at hg
    simp [Value.ownBlock] at hg
end
end Go.Proofs.YtnleljpebnnhfaaGreatDoor

set_option linter.unusedSimpArgs false
set_option linter.unusedVariables false
set_option linter.unusedSectionVars false
namespace Go.Proofs.YtnleljpebnnhfaaGreatDoor
open Go.RowKit
theorem alloc4 (W : World) (n : Nat) (h : W.heap.size = n) (x0 x1 x2 x3 : Value) (t : TypeId) : (W.alloc (.cells #[x0, x1, x2, x3] t)).cell? ⟨n, 0, none⟩ = some x0 ∧ (W.alloc (.cells #[x0, x1, x2, x3] t)).cell? ⟨n, 1, none⟩ = some x1 ∧ (W.alloc (.cells #[x0, x1, x2, x3] t)).cell? ⟨n, 2, none⟩ = some x2 ∧ (W.alloc (.cells #[x0, x1, x2, x3] t)).cell? ⟨n, 3, none⟩ = some x3 := by
  subst h; simp
section
variable (G : List Nd) (hG : VG G) (A : Option Addr) (N c : Nat) (hN : G.length = N) (hmax : N ≤ 60000) (w0 : World) (hr : NdsRd w0 A G) (hnil : NilA w0 A G) (L : KPl) (ok : L.Ok w0.heap.size)
  (i l : Nat) (w : World) (outs : List (Nat × Nat)) (rows : List (Nd × Value)) (v : Value) (hi : i < N) (hl : l ≤ 12) (hfix : KFix A N c w0 L w) (hst : KSt G L w outs rows v)
include hN hmax hr hi hl hfix hst hG hnil ok
set_option maxRecDepth 100000 in
set_option maxHeartbeats 8000000 in
theorem kvisit_leaf (hlk : look (pairsK outs) (kI (cutNorm G (i, l))) = none) (hleaf : (nd G i).kind ≠ 3 ∨ l = 0) :
    Calls Tryz.prog 46 (#[.int .i64 i, .int .i64 l] ++ L.caps) w (KPost G L w (cutNorm G (i, l)) outs rows v) := by
  obtain ⟨b, o, hA, A1, c1, q0, q1, q2, q3, q4, q5⟩ := hr.get (i := i) (by omega)
  have p0 := hfix.ext.cell q0
  have p1 := hfix.ext.cell q1
  have p2 := hfix.ext.cell q2
  have p3 := hfix.ext.cell q3
  have hx1 : Ext w (w.alloc (kbox G i A1 c1)) := (Ext.rfl' _).alloc _
  have hm1 := hst.map.ext hx1
  have f1 := hfix.cl
  have f2 := hx1.cell hfix.cm
  have hv := hG _ (nd_mem (i := i) (by omega))
  have hpp : (cutNorm G (i, l)).1 < G.length ∧ (cutNorm G (i, l)).2 ≤ 12 ∧ cutNorm G (cutNorm G (i, l)) = cutNorm G (i, l) := by
    refine ⟨?_, ?_, cutNorm_idem G _⟩ <;> unfold cutNorm <;> split <;> simp <;> omega
  have hfits : FitsP (kI (cutNorm G (i, l))) := fitsP_k (by have := hpp.1; omega) hpp.2.1
  have hlook := hm1.lookup kl70 und68 zero3 hfits true
  rw [hlk] at hlook
  have hni := pairsK_none hlk
  have hsh := hst.own.shape
  rw [hst.len] at hsh
  obtain ⟨Av, cv, rfl, hcv⟩ := hsh
  have hpo1 := hx1.heap hst.po
  have c4 : (w.alloc (kbox G i A1 c1)).cell? ⟨L.po, 0, none⟩ = some (.slice Av outs.length cv) := by simp [World.cell?, hpo1]
  have hbx1 : (w.alloc (kbox G i A1 c1)).heap[w.heap.size]? = some (kbox G i A1 c1) := new_heap _ _ _ rfl
  have hMw := hfix.size
  have hlo := hst.le
  have hrl := hst.len
  by_cases h3 : (nd G i).kind = 3
  · obtain rfl : l = 0 := by
      rcases hleaf with h | h
      · exact absurd h3 h
      · exact h
    have d1 : ((nd G i).kind != 3) = false := by simp [h3]
    have d2 : ((nd G i).kind == 3) = true := by simp [h3]
    have hnode : cutNode G (cutNorm G (i, 0)) = ⟨2, 0, cutLabel, []⟩ := by rw [cutNorm_left h3]; unfold cutNode; rw [if_pos h3]; rfl
    have hkids : cutKids G (cutNorm G (i, 0)) = [] := by rw [cutNorm_left h3]; unfold cutKids; rw [if_neg (by simp)]
    rw [cutNorm_left h3] at hlook
    have hrun : (Instr.lookup 68 (.map (some L.bm)) (.agg #[.int .i64 i, .int .i64 0]) true).run Tryz.prog (w.alloc (kbox G i A1 c1)) = .ok (.tuple #[.int .i64 0, .bool false]) (w.alloc (kbox G i A1 c1)) := hlook
    have HM1 := Lib.hid hm1
    have HF := Lib.hid hfits
    have HST := Lib.hid hst
    have HLK := Lib.hid hlk
    have HBX1 := Lib.hid hbx1
    have HX1 := Lib.hid hx1
    have HFX := Lib.hid hfix
    have HPP := Lib.hid hpp
    have HNI := Lib.hid hni
    have HND := Lib.hid hnode
    have HKD := Lib.hid hkids
    have HOK := Lib.hid ok
    have HN3 := Lib.hid h3
    have HRL := Lib.hid hrl
    have HLO := Lib.hid hlo
    have hfx := hfix
    have hss := hst
    subst hA
    clear hm1 hfits hlk hbx1 hx1 hpp hni hnode hkids hlook hpo1 q0 q1 q2 q3 q4 q5 h3 hleaf
    unfold kbox at f2 c4 hrun
    unfold KPl.caps
    have c4w : w.cell? ⟨L.po, 0, none⟩ = some (.slice Av outs.length cv) := by simp [World.cell?, HST.out.po]
    go_enter Tryz.func46, Tryz.ntmps46
    go_wp2_with (at_mapUpdate; refine wpList_upd rfl _ _ _ 68 rfl kl70 und68 HM1.out rfl (kI (cutNorm G (i, 0))) HF.out (by rw [cutNorm_left HN3.out]; rfl) (outs.length : Int) rfl ?_)
    intro w2 hM hch
    rw [pairsK_ins HLK.out] at hM
    have C12 : ChgS (fun j => j = L.bm) (w.alloc (kbox G i A1 c1)) w2 := (ChgS.refl (fun j => j = L.bm) _).chg hch (.inl rfl)
    have C2 : ChgS (fun j => j = L.bm ∨ w.heap.size ≤ j) w w2 := (ChgS.of_ext HX1.out).trans (T := fun j => j = L.bm) C12 fun _ _ h => .inl h
    have hvM : ∀ g, (Value.slice Av outs.length cv).ownBlock = some g → L.M ≤ g := fun g hg => (HST.out.own.block hg).1
    have hlt2 : w.heap.size < w2.heap.size := by have := C12.size; simp at this; omega
    have hbx2 : w2.heap[w.heap.size]? = some (kbox G i A1 c1) := C12.heap HBX1.out (by have := HOK.out.bm; omega)
    unfold kbox at hbx2
    have x0 : w2.cell? ⟨w.heap.size, 0, none⟩ = some (.int .i64 (nd G i).kind) := by simp [World.cell?, hbx2]
    have x1 : w2.cell? ⟨w.heap.size, 1, none⟩ = some (.int .i64 (nd G i).num) := by simp [World.cell?, hbx2]
    have x2 : w2.cell? ⟨w.heap.size, 2, none⟩ = some (.string (nd G i).label) := by simp [World.cell?, hbx2]
    have x3 : w2.cell? ⟨w.heap.size, 3, none⟩ = some (.slice A1 (nd G i).args.length c1) := by simp [World.cell?, hbx2]
    have xz : ∀ k, w2.frozen? ⟨w.heap.size, k, none⟩ = false := fun k => by simp [World.frozen?, hbx2]
    have hpo2 : w2.heap[L.po]? = some (.cells #[.slice Av outs.length cv, .int .i64 0] 24 (0, 0)) := C2.heap HST.out.po (by rintro (h | h); exact HOK.out.two h; have := HOK.out.po; have := HFX.out.size; omega)
    have c4b : w2.cell? ⟨L.po, 0, none⟩ = some (.slice Av outs.length cv) := by simp [World.cell?, hpo2]
    have hown2 : OwnN w2 L.M (.slice Av outs.length cv) rows := C2.ownN HST.out.own (fun g hg e => by rcases e with e | e; have := hvM g hg; have := HOK.out.bm; omega; have := (HST.out.own.block hg).2.1; omega) (fun r hr g hg e => by have h1 := ((HST.out.own.args r hr).block hg); rcases e with e | e; have := HOK.out.bm; omega; omega)
    have HM := Lib.hid hM
    have HC2 := Lib.hid C2
    have HO2 := Lib.hid hown2
    have HVM := Lib.hid hvM
    have HB2 := Lib.hid hbx2
    have HPO2 := Lib.hid hpo2
    clear hM hch C12 C2 hown2 hpo2 hvM hrun f2 c4 hbx2
    have k1 := box4_0 (.int .i64 2) HB2.out
    have k2 := box4_1 (.int .i64 0) k1
    have k3 := box4_2 (.string { data := #[99, 117, 116] }) k2
    have k4 := box4_3 (.slice none 0 0) k3
    have e1 : (w2.setCell ⟨w.heap.size, 0, none⟩ (.int .i64 2)).cell? ⟨w.heap.size, 1, none⟩ = some (.int .i64 (nd G i).num) := by simp [World.cell?, k1]
    have e2 : ((w2.setCell ⟨w.heap.size, 0, none⟩ (.int .i64 2)).setCell ⟨w.heap.size, 1, none⟩ (.int .i64 0)).cell? ⟨w.heap.size, 2, none⟩ = some (.string (nd G i).label) := by simp [World.cell?, k2]
    have e3 : (((w2.setCell ⟨w.heap.size, 0, none⟩ (.int .i64 2)).setCell ⟨w.heap.size, 1, none⟩ (.int .i64 0)).setCell ⟨w.heap.size, 2, none⟩ (.string { data := #[99, 117, 116] })).cell? ⟨w.heap.size, 3, none⟩ = some (.slice A1 (nd G i).args.length c1) := by simp [World.cell?, k3]
    have e4 : ((((w2.setCell ⟨w.heap.size, 0, none⟩ (.int .i64 2)).setCell ⟨w.heap.size, 1, none⟩ (.int .i64 0)).setCell ⟨w.heap.size, 2, none⟩ (.string { data := #[99, 117, 116] })).setCell ⟨w.heap.size, 3, none⟩ (.slice none 0 0)).cell? ⟨w.heap.size, 0, none⟩ = some (.int .i64 2) := by simp [World.cell?, k4]
    have e5 : ((((w2.setCell ⟨w.heap.size, 0, none⟩ (.int .i64 2)).setCell ⟨w.heap.size, 1, none⟩ (.int .i64 0)).setCell ⟨w.heap.size, 2, none⟩ (.string { data := #[99, 117, 116] })).setCell ⟨w.heap.size, 3, none⟩ (.slice none 0 0)).cell? ⟨w.heap.size, 1, none⟩ = some (.int .i64 0) := by simp [World.cell?, k4]
    have e6 : ((((w2.setCell ⟨w.heap.size, 0, none⟩ (.int .i64 2)).setCell ⟨w.heap.size, 1, none⟩ (.int .i64 0)).setCell ⟨w.heap.size, 2, none⟩ (.string { data := #[99, 117, 116] })).setCell ⟨w.heap.size, 3, none⟩ (.slice none 0 0)).cell? ⟨w.heap.size, 2, none⟩ = some (.string { data := #[99, 117, 116] }) := by simp [World.cell?, k4]
    have e7 : ((((w2.setCell ⟨w.heap.size, 0, none⟩ (.int .i64 2)).setCell ⟨w.heap.size, 1, none⟩ (.int .i64 0)).setCell ⟨w.heap.size, 2, none⟩ (.string { data := #[99, 117, 116] })).setCell ⟨w.heap.size, 3, none⟩ (.slice none 0 0)).cell? ⟨w.heap.size, 3, none⟩ = some (.slice none 0 0) := by simp [World.cell?, k4]
    have CB : ChgS (fun j => j = w.heap.size) w2 ((((w2.setCell ⟨w.heap.size, 0, none⟩ (.int .i64 2)).setCell ⟨w.heap.size, 1, none⟩ (.int .i64 0)).setCell ⟨w.heap.size, 2, none⟩ (.string { data := #[99, 117, 116] })).setCell ⟨w.heap.size, 3, none⟩ (.slice none 0 0)) := ((((ChgS.refl (fun j => j = w.heap.size) w2).set (.inl rfl) _ _).set (.inl rfl) _ _).set (.inl rfl) _ _).set (.inl rfl) _ _
    have hpo4 := CB.heap HPO2.out (by have := HOK.out.po; omega)
    have c4d : ((((w2.setCell ⟨w.heap.size, 0, none⟩ (.int .i64 2)).setCell ⟨w.heap.size, 1, none⟩ (.int .i64 0)).setCell ⟨w.heap.size, 2, none⟩ (.string { data := #[99, 117, 116] })).setCell ⟨w.heap.size, 3, none⟩ (.slice none 0 0)).cell? ⟨L.po, 0, none⟩ = some (.slice Av outs.length cv) := by simp [World.cell?, hpo4]
    have hown4 : OwnN ((((w2.setCell ⟨w.heap.size, 0, none⟩ (.int .i64 2)).setCell ⟨w.heap.size, 1, none⟩ (.int .i64 0)).setCell ⟨w.heap.size, 2, none⟩ (.string { data := #[99, 117, 116] })).setCell ⟨w.heap.size, 3, none⟩ (.slice none 0 0)) L.M (.slice Av outs.length cv) rows := CB.ownN HO2.out (fun g hg e => by have := (HST.out.own.block hg).2.1; omega) (fun r hr g hg e => by have := ((HST.out.own.args r hr).block hg).2.1; omega)
    have HO4 := Lib.hid hown4
    have HCB := Lib.hid CB
    have hsz4 : ((((w2.setCell ⟨w.heap.size, 0, none⟩ (.int .i64 2)).setCell ⟨w.heap.size, 1, none⟩ (.int .i64 0)).setCell ⟨w.heap.size, 2, none⟩ (.string { data := #[99, 117, 116] })).setCell ⟨w.heap.size, 3, none⟩ (.slice none 0 0)).heap.size = w2.heap.size := by simp [World.setCell]
    clear k1 k2 k3 k4 CB hpo4 hown4
    go_wp2_with (at_builtin; refine wpList_app22 rfl _ _ rfl L.M (.slice Av outs.length cv) rows rfl (HO4.out.ext ((Ext.rfl' _).alloc _)) w2.heap.size 1 (cutNode G (cutNorm G (i, 0)), .slice none 0 0) rfl (by rw [HND.out]; exact (alloc4 _ _ hsz4 _ _ _ _ _).1) (by rw [HND.out]; exact (alloc4 _ _ hsz4 _ _ _ _ _).2.1) (by rw [HND.out]; exact (alloc4 _ _ hsz4 _ _ _ _ _).2.2.1) (alloc4 _ _ hsz4 _ _ _ _ _).2.2.2 (by rw [HND.out]; exact OwnI.nil _ _) (fun _ => rfl) (by have := HRL.out; have := HLO.out; omega) (by have := hsz4; simp only [World.alloc, Array.size_push]; omega) ?_)
    intro v' w3 hown3 hgr hat
    obtain ⟨A2, k2, rfl, hk2⟩ : ∃ A2 k2, v' = .slice A2 (outs.length + 1) k2 ∧ outs.length + 1 ≤ k2 := by
      have := hown3.shape
      simpa [HRL.out] using this
    have happ := kapp_of G hG _ N c hN hmax w0 hr hnil L HOK.out i 0 w outs rows _ hi hl HFX.out HST.out (p := cutNorm G (i, 0)) HPP.out HNI.out HC2.out HM.out (HCB.out.alloc _) hown3 hgr (by first | exact hat | exact hat.imp id fun h => by rw [h]; simp)
    have CT : ChgS (fun j => (Value.slice Av outs.length cv).ownBlock = some j ∨ j = w.heap.size) w2 w3 := ((HCB.out.alloc _).mono fun _ _ h => .inr h).grown hgr fun j hj => .inl (.inl hj)
    have hpo3 := CT.heap HPO2.out (by rintro (h | h); have := HVM.out _ h; have := HOK.out.po; omega; have := HOK.out.po; omega)
    have c5 : w3.cell? ⟨L.po, 0, none⟩ = some (.slice Av outs.length cv) := by simp [World.cell?, hpo3]
    have z5 : w3.frozen? ⟨L.po, 0, none⟩ = false := by simp [World.frozen?, hpo3]
    have HAPP := Lib.hid happ
    clear happ CT hpo3 hown3 hgr hat
    go_wp2
    go_ret
    exact kpost_leaf G hG _ N c hN hmax w0 hr hnil L HOK.out i 0 w outs rows _ hi hl HFX.out HST.out HAPP.out HKD.out (by rw [HND.out])
  · have d1 : ((nd G i).kind != 3) = true := by simp [h3]
    have hargs := valid_leaf hv h3
    have hq3 := hnil i b o hA (by omega) hargs
    rw [hq3] at q3
    obtain ⟨rfl, hl0, rfl⟩ : none = A1 ∧ (0 : Nat) = (nd G i).args.length ∧ (0 : Nat) = c1 := by
      have := Option.some.inj q3
      simpa using this
    have hnode : cutNode G (cutNorm G (i, l)) = nd G i := by rw [cutNorm_leaf h3]; unfold cutNode; rw [if_neg h3]
    have hkids : cutKids G (cutNorm G (i, l)) = [] := by rw [cutNorm_leaf h3]; unfold cutKids; rw [if_neg (by simp)]
    rw [cutNorm_leaf h3] at hlook
    have hrun : (Instr.lookup 68 (.map (some L.bm)) (.agg #[.int .i64 i, .int .i64 0]) true).run Tryz.prog (w.alloc (kbox G i none 0)) = .ok (.tuple #[.int .i64 0, .bool false]) (w.alloc (kbox G i none 0)) := hlook
    have HM1 := Lib.hid hm1
    have HF := Lib.hid hfits
    have HST := Lib.hid hst
    have HLK := Lib.hid hlk
    have HBX1 := Lib.hid hbx1
    have HX1 := Lib.hid hx1
    have HFX := Lib.hid hfix
    have HPP := Lib.hid hpp
    have HNI := Lib.hid hni
    have HND := Lib.hid hnode
    have HKD := Lib.hid hkids
    have HAR := Lib.hid hargs
    have HOK := Lib.hid ok
    have HN3 := Lib.hid h3
    have HRL := Lib.hid hrl
    have HLO := Lib.hid hlo
    have hfx := hfix
    have hss := hst
    subst hA
    have HLF := Lib.hid hleaf
    clear hm1 hfits hlk hbx1 hx1 hpp hni hnode hkids hlook hpo1 q0 q1 q2 q3 q4 q5 hq3 hargs hl0 h3 hleaf
    unfold kbox at f2 c4 hrun
    unfold KPl.caps
    have c4w : w.cell? ⟨L.po, 0, none⟩ = some (.slice Av outs.length cv) := by simp [World.cell?, HST.out.po]
    go_enter Tryz.func46, Tryz.ntmps46
    go_wp2_with (at_mapUpdate; refine wpList_upd rfl _ _ _ 68 rfl kl70 und68 HM1.out rfl (kI (cutNorm G (i, l))) HF.out (by rw [cutNorm_leaf HN3.out]; rfl) (outs.length : Int) rfl ?_)
    intro w2 hM hch
    rw [pairsK_ins HLK.out] at hM
    have C12 : ChgS (fun j => j = L.bm) (w.alloc (kbox G i none 0)) w2 := (ChgS.refl (fun j => j = L.bm) _).chg hch (.inl rfl)
    have C2 : ChgS (fun j => j = L.bm ∨ w.heap.size ≤ j) w w2 := (ChgS.of_ext HX1.out).trans (T := fun j => j = L.bm) C12 fun _ _ h => .inl h
    have hvM : ∀ g, (Value.slice Av outs.length cv).ownBlock = some g → L.M ≤ g := fun g hg => (HST.out.own.block hg).1
    have hlt2 : w.heap.size < w2.heap.size := by have := C12.size; simp at this; omega
    have hbx2 : w2.heap[w.heap.size]? = some (kbox G i none 0) := C12.heap HBX1.out (by have := HOK.out.bm; omega)
    unfold kbox at hbx2
    have x0 : w2.cell? ⟨w.heap.size, 0, none⟩ = some (.int .i64 (nd G i).kind) := by simp [World.cell?, hbx2]
    have x1 : w2.cell? ⟨w.heap.size, 1, none⟩ = some (.int .i64 (nd G i).num) := by simp [World.cell?, hbx2]
    have x2 : w2.cell? ⟨w.heap.size, 2, none⟩ = some (.string (nd G i).label) := by simp [World.cell?, hbx2]
    have x3 : w2.cell? ⟨w.heap.size, 3, none⟩ = some (.slice none (nd G i).args.length 0) := by simp [World.cell?, hbx2]
    have xz : ∀ k, w2.frozen? ⟨w.heap.size, k, none⟩ = false := fun k => by simp [World.frozen?, hbx2]
    have hpo2 : w2.heap[L.po]? = some (.cells #[.slice Av outs.length cv, .int .i64 0] 24 (0, 0)) := C2.heap HST.out.po (by rintro (h | h); exact HOK.out.two h; have := HOK.out.po; have := HFX.out.size; omega)
    have c4b : w2.cell? ⟨L.po, 0, none⟩ = some (.slice Av outs.length cv) := by simp [World.cell?, hpo2]
    have hown2 : OwnN w2 L.M (.slice Av outs.length cv) rows := C2.ownN HST.out.own (fun g hg e => by rcases e with e | e; have := hvM g hg; have := HOK.out.bm; omega; have := (HST.out.own.block hg).2.1; omega) (fun r hr g hg e => by have h1 := ((HST.out.own.args r hr).block hg); rcases e with e | e; have := HOK.out.bm; omega; omega)
    have HM := Lib.hid hM
    have HC2 := Lib.hid C2
    have HO2 := Lib.hid hown2
    have HVM := Lib.hid hvM
    have HB2 := Lib.hid hbx2
    have HPO2 := Lib.hid hpo2
    clear hM hch C12 C2 hown2 hpo2 hvM hrun f2 c4 hbx2
    have d2 : ((nd G i).kind == 3) = false := by simp [HN3.out]
    go_wp2_with (at_builtin; refine wpList_app22 rfl _ _ rfl L.M (.slice Av outs.length cv) rows rfl (HO2.out.ext ((Ext.rfl' _).alloc _)) w2.heap.size 1 (cutNode G (cutNorm G (i, l)), .slice none 0 0) rfl (by rw [HND.out]; simp) (by rw [HND.out]; simp) (by rw [HND.out]; simp) (by simp [HAR.out]) (by rw [HND.out, HAR.out]; exact OwnI.nil _ _) (fun _ => rfl) (by have := HRL.out; have := HLO.out; omega) (by simp; omega) ?_)
    intro v' w3 hown3 hgr hat
    obtain ⟨A2, k2, rfl, hk2⟩ : ∃ A2 k2, v' = .slice A2 (outs.length + 1) k2 ∧ outs.length + 1 ≤ k2 := by
      have := hown3.shape
      simpa [HRL.out] using this
    have happ := kapp_of G hG _ N c hN hmax w0 hr hnil L HOK.out i l w outs rows _ hi hl HFX.out HST.out (p := cutNorm G (i, l)) HPP.out HNI.out HC2.out HM.out ((ChgS.of_ext ((Ext.rfl' w2).alloc _))) hown3 hgr (hat.imp id fun h => by rw [h]; simp)
    have CT : ChgS (fun j => (Value.slice Av outs.length cv).ownBlock = some j ∨ j = w.heap.size) w2 w3 := (((ChgS.of_ext ((Ext.rfl' w2).alloc _))).mono fun _ _ h => .inr h).grown hgr fun j hj => .inl (.inl hj)
    have hpo3 := CT.heap HPO2.out (by rintro (h | h); have := HVM.out _ h; have := HOK.out.po; omega; have := HOK.out.po; omega)
    have c5 : w3.cell? ⟨L.po, 0, none⟩ = some (.slice Av outs.length cv) := by simp [World.cell?, hpo3]
    have z5 : w3.frozen? ⟨L.po, 0, none⟩ = false := by simp [World.frozen?, hpo3]
    have HAPP := Lib.hid happ
    clear happ CT hpo3 hown3 hgr hat
    go_wp2
    go_ret
    exact kpost_leaf G hG _ N c hN hmax w0 hr hnil L HOK.out i l w outs rows _ hi hl HFX.out HST.out HAPP.out HKD.out (by rw [HND.out]; exact HAR.out)
end
end Go.Proofs.YtnleljpebnnhfaaGreatDoor

set_option linter.unusedSimpArgs false
set_option linter.unusedVariables false
set_option linter.unusedSectionVars false
namespace Go.Proofs.YtnleljpebnnhfaaGreatDoor
open Go.RowKit
/-- What holds while the arguments of a node are visited. -/
structure KRun (G : List Nd) (A : Option Addr) (N c : Nat) (w0 : World) (L : KPl) (w : World) (p : Nat × Nat) (outs : List (Nat × Nat)) (rows : List (Nd × Value)) (v : Value) (j : Nat) (va : Value) (idxs : List Int) (wr : World) (outs2 : List (Nat × Nat)) (rows2 : List (Nd × Value)) (v2 : Value) : Prop where
  fix : KFix A N c w0 L wr
  st : KSt G L wr outs2 rows2 v2
  chg : ChgS (KMay L v) w wr
  blk : v2.ownBlock = v.ownBlock ∨ ∀ g, v2.ownBlock = some g → w.heap.size ≤ g
  grow : ∃ m, outs2 = (outs ++ [p]) ++ m
  pre : rows2.take (rows.length + 1) = rows ++ [(cutNode G p, .slice none 0 0)]
  own : OwnI wr L.M va idxs
  fresh : ∀ g, va.ownBlock = some g → w.heap.size ≤ g
  args : All2 (fun (m : Int) (x : Nat × Nat) => ∃ j, ∃ h : j < outs2.length, m = (j : Int) ∧ outs2[j] = x) idxs ((cutKids G p).take j)
  done : KDone G outs2 rows2 (outs.length + 1)
  sep : ∀ r ∈ rows2, ∀ g, va.ownBlock = some g → r.2.ownBlock ≠ some g
  new : ∀ r ∈ rows2.drop rows.length, ∀ g, r.2.ownBlock = some g → w.heap.size ≤ g
  nilv : idxs = [] → va = .slice none 0 0
section
variable (G : List Nd) (hG : VG G) (A : Option Addr) (N c : Nat) (hN : G.length = N) (hmax : N ≤ 60000) (w0 : World) (hr : NdsRd w0 A G) (hnil : NilA w0 A G) (L : KPl) (ok : L.Ok w0.heap.size)
  (i l : Nat) (w : World) (outs : List (Nat × Nat)) (rows : List (Nd × Value)) (v : Value) (hi : i < N) (hl : l ≤ 12) (hfix : KFix A N c w0 L w) (hst : KSt G L w outs rows v)
include hN hmax hr hi hl hfix hst hG hnil ok
/-- The state when the loop begins. -/
theorem krun_start {p : Nat × Nat} {v' : Value} {w' : World} (h : KApp G A N c w0 L w outs rows v p v' w') (hk : (cutNode G p).args = []) :
    KRun G A N c w0 L w p outs rows v 0 (.slice none 0 0) [] w' (outs ++ [p]) (rows ++ [(cutNode G p, .slice none 0 0)]) v' := by
  refine ⟨h.fix, h.st, h.chg, h.blk, ⟨[], by simp⟩, ?_, OwnI.nil _ _, ?_, by simpa using All2.nil, ?_, ?_, ?_, fun _ => rfl⟩
  · rw [List.take_of_length_le (by simp)]
  · intro g hg; simp [Value.ownBlock] at hg
  · intro k h1 h2 h3
    simp at h3; omega
  · intro r hr g hg; simp [Value.ownBlock] at hg
  · intro r hr g hg
    simp at hr
    rw [hr] at hg
    simp [Value.ownBlock] at hg
set_option maxRecDepth 100000 in
set_option maxHeartbeats 8000000 in
theorem kvisit_tup (hlk : look (pairsK outs) (kI (cutNorm G (i, l))) = none) (h3 : (nd G i).kind = 3) (hl0 : l ≠ 0)
    (ih : ∀ (i' : Nat) (w : World) (outs : List (Nat × Nat)) (rows : List (Nd × Value)) (v : Value), i' < N → KFix A N c w0 L w → KSt G L w outs rows v →
      Calls Tryz.prog 46 (#[.int .i64 i', .int .i64 ((l : Int) - 1)] ++ L.caps) w (KPost G L w (cutNorm G (i', l - 1)) outs rows v)) :
    Calls Tryz.prog 46 (#[.int .i64 i, .int .i64 l] ++ L.caps) w (KPost G L w (cutNorm G (i, l)) outs rows v) := by
  obtain ⟨b, o, hA, A1, c1, q0, q1, q2, q3, q4, q5⟩ := hr.get (i := i) (by omega)
  have p0 := hfix.ext.cell q0
  have p1 := hfix.ext.cell q1
  have p2 := hfix.ext.cell q2
  have p3 := hfix.ext.cell q3
  have hx1 : Ext w (w.alloc (kbox G i A1 c1)) := (Ext.rfl' _).alloc _
  have hm1 := hst.map.ext hx1
  have f1 := hfix.cl
  have f2 := hx1.cell hfix.cm
  have hv := hG _ (nd_mem (i := i) (by omega))
  rw [cutNorm_left h3] at hlk ⊢
  have hpp : ((i, l) : Nat × Nat).1 < G.length ∧ ((i, l) : Nat × Nat).2 ≤ 12 ∧ cutNorm G (i, l) = (i, l) := ⟨by simp; omega, hl, cutNorm_left h3⟩
  have hfits : FitsP (kI (i, l)) := fitsP_k (by show i ≤ 1000000; omega) hl
  have hlook := hm1.lookup kl70 und68 zero3 hfits true
  rw [hlk] at hlook
  have hni := pairsK_none hlk
  have hsh := hst.own.shape
  rw [hst.len] at hsh
  obtain ⟨Av, cv, rfl, hcv⟩ := hsh
  have hpo1 := hx1.heap hst.po
  have c4 : (w.alloc (kbox G i A1 c1)).cell? ⟨L.po, 0, none⟩ = some (.slice Av outs.length cv) := by simp [World.cell?, hpo1]
  have hbx1 : (w.alloc (kbox G i A1 c1)).heap[w.heap.size]? = some (kbox G i A1 c1) := new_heap _ _ _ rfl
  have hMw := hfix.size
  have hlo := hst.le
  have hrl := hst.len
  have d1 : ((nd G i).kind != 3) = false := by simp [h3]
  have d2 : ((nd G i).kind == 3) = true := by simp [h3]
  have d3 : ((l : Int) == 0) = false := by simp [hl0]
  have hnode : cutNode G (i, l) = ⟨3, 0, (nd G i).label, []⟩ := by unfold cutNode; rw [if_pos h3, if_neg hl0]
  have hkids : cutKids G (i, l) = (kids G i).map fun a => cutNorm G (a, l - 1) := by unfold cutKids; rw [if_pos ⟨h3, hl0⟩]
  have hrun : (Instr.lookup 68 (.map (some L.bm)) (.agg #[.int .i64 i, .int .i64 l]) true).run Tryz.prog (w.alloc (kbox G i A1 c1)) = .ok (.tuple #[.int .i64 0, .bool false]) (w.alloc (kbox G i A1 c1)) := hlook
  have hargs := valid_ar hv
  have HM1 := Lib.hid hm1
  have HF := Lib.hid hfits
  have HST := Lib.hid hst
  have HLK := Lib.hid hlk
  have HBX1 := Lib.hid hbx1
  have HX1 := Lib.hid hx1
  have HFX := Lib.hid hfix
  have HPP := Lib.hid hpp
  have HNI := Lib.hid hni
  have HND := Lib.hid hnode
  have HKD := Lib.hid hkids
  have HOK := Lib.hid ok
  have HN3 := Lib.hid h3
  have HRL := Lib.hid hrl
  have HLO := Lib.hid hlo
  have HIH := Lib.hid ih
  have HG := Lib.hid hG
  have HL0 := Lib.hid hl0
  have P5 := Lib.hid q5
  have hfx := hfix
  have hss := hst
  have HNL := Lib.hid hnil
  have HR := Lib.hid hr
  subst hA
  clear hm1 hfits hlk hbx1 hx1 hpp hni hnode hkids hlook hpo1 q0 q1 q2 q3 q4 q5 h3 ih hl0
  unfold kbox at f2 c4 hrun
  unfold KPl.caps
  have c4w : w.cell? ⟨L.po, 0, none⟩ = some (.slice Av outs.length cv) := by simp [World.cell?, HST.out.po]
  go_enter Tryz.func46, Tryz.ntmps46
  go_wp2_with (at_mapUpdate; refine wpList_upd rfl _ _ _ 68 rfl kl70 und68 HM1.out rfl (kI (i, l)) HF.out rfl (outs.length : Int) rfl ?_)
  intro w2 hM hch
  rw [pairsK_ins HLK.out] at hM
  have C12 : ChgS (fun j => j = L.bm) (w.alloc (kbox G i A1 c1)) w2 := (ChgS.refl (fun j => j = L.bm) _).chg hch (.inl rfl)
  have C2 : ChgS (fun j => j = L.bm ∨ w.heap.size ≤ j) w w2 := (ChgS.of_ext HX1.out).trans (T := fun j => j = L.bm) C12 fun _ _ h => .inl h
  have hvM : ∀ g, (Value.slice Av outs.length cv).ownBlock = some g → L.M ≤ g := fun g hg => (HST.out.own.block hg).1
  have hlt2 : w.heap.size < w2.heap.size := by have := C12.size; simp at this; omega
  have hbx2 : w2.heap[w.heap.size]? = some (kbox G i A1 c1) := C12.heap HBX1.out (by have := HOK.out.bm; omega)
  unfold kbox at hbx2
  have x0 : w2.cell? ⟨w.heap.size, 0, none⟩ = some (.int .i64 (nd G i).kind) := by simp [World.cell?, hbx2]
  have x1 : w2.cell? ⟨w.heap.size, 1, none⟩ = some (.int .i64 (nd G i).num) := by simp [World.cell?, hbx2]
  have x2 : w2.cell? ⟨w.heap.size, 2, none⟩ = some (.string (nd G i).label) := by simp [World.cell?, hbx2]
  have x3 : w2.cell? ⟨w.heap.size, 3, none⟩ = some (.slice A1 (nd G i).args.length c1) := by simp [World.cell?, hbx2]
  have hpo2 : w2.heap[L.po]? = some (.cells #[.slice Av outs.length cv, .int .i64 0] 24 (0, 0)) := C2.heap HST.out.po (by rintro (h | h); exact HOK.out.two h; have := HOK.out.po; have := HFX.out.size; omega)
  have c4b : w2.cell? ⟨L.po, 0, none⟩ = some (.slice Av outs.length cv) := by simp [World.cell?, hpo2]
  have hown2 : OwnN w2 L.M (.slice Av outs.length cv) rows := C2.ownN HST.out.own (fun g hg e => by rcases e with e | e; have := hvM g hg; have := HOK.out.bm; omega; have := (HST.out.own.block hg).2.1; omega) (fun r hr g hg e => by have h1 := ((HST.out.own.args r hr).block hg); rcases e with e | e; have := HOK.out.bm; omega; omega)
  have HM := Lib.hid hM
  have HC2 := Lib.hid C2
  have HO2 := Lib.hid hown2
  have HVM := Lib.hid hvM
  have HB2 := Lib.hid hbx2
  have HPO2 := Lib.hid hpo2
  clear hM hch C12 C2 hown2 hpo2 hvM hrun f2 c4 hbx2
  go_wp2_with (at_builtin; refine wpList_app22 rfl _ _ rfl L.M (.slice Av outs.length cv) rows rfl (HO2.out.ext ((Ext.rfl' _).alloc _)) w2.heap.size 1 (cutNode G (i, l), .slice none 0 0) rfl (by rw [HND.out]; simp) (by rw [HND.out]; simp) (by rw [HND.out]; simp) (by simp) (by rw [HND.out]; exact OwnI.nil _ _) (fun _ => rfl) (by have := HRL.out; have := HLO.out; omega) (by simp; omega) ?_)
  intro v' w3 hown3 hgr hat
  obtain ⟨A2, k2, rfl, hk2⟩ : ∃ A2 k2, v' = .slice A2 (outs.length + 1) k2 ∧ outs.length + 1 ≤ k2 := by
    have := hown3.shape
    simpa [HRL.out] using this
  have CW : ChgS (fun j => j = w.heap.size) w2 (w2.alloc (.cells #[.int .i64 3, .int .i64 0, .string (nd G i).label, .slice none 0 0] 46 (0, 0))) := ChgS.of_ext ((Ext.rfl' w2).alloc _)
  have happ := kapp_of G hG _ N c hN hmax w0 hr hnil L HOK.out i l w outs rows _ hi hl HFX.out HST.out (p := (i, l)) HPP.out HNI.out HC2.out HM.out CW hown3 hgr (hat.imp id fun h => by rw [h]; simp)
  have CT : ChgS (fun j => (Value.slice Av outs.length cv).ownBlock = some j) w2 w3 := ((ChgS.of_ext (S := fun j => (Value.slice Av outs.length cv).ownBlock = some j) ((Ext.rfl' w2).alloc _))).grown hgr fun j hj => .inl hj
  have hpo3 := CT.heap HPO2.out (by intro h; have := HVM.out _ h; have := HOK.out.po; omega)
  have hbx3 := CT.heap HB2.out (by intro h; have := (HO2.out.block h).2.1; have := (HST.out.own.block h).2.1; omega)
  have hCpo : ChgS (fun j => j = L.po) w3 (w3.setCell ⟨L.po, 0, none⟩ (.slice A2 (outs.length + 1) k2)) := (ChgS.refl (fun j => j = L.po) w3).set (.inl rfl) 0 (.slice A2 (outs.length + 1) k2)
  have hbx4 := hCpo.heap hbx3 (by have := HOK.out.po; omega)
  have x4 : (w3.setCell ⟨L.po, 0, none⟩ (.slice A2 (outs.length + 1) k2)).cell? ⟨w.heap.size, 3, none⟩ = some (.slice A1 (nd G i).args.length c1) := by simp only [World.cell?, hbx4]; rfl
  have c5 : w3.cell? ⟨L.po, 0, none⟩ = some (.slice Av outs.length cv) := by simp [World.cell?, hpo3]
  have z5 : w3.frozen? ⟨L.po, 0, none⟩ = false := by simp [World.frozen?, hpo3]
  have HAPP := Lib.hid happ
  clear happ CT hpo3 hbx3 hbx4 hCpo hown3 hgr hat CW x0 x1 x2 x3 c4b c4w p0 p1 p2 p3
  go_wp2
  generalize w3.setCell ⟨L.po, 0, none⟩ (.slice A2 (outs.length + 1) k2) = w4 at HAPP x4 ⊢
  have hst0 := krun_start G hG _ N c hN hmax w0 HR.out HNL.out L HOK.out i l w outs rows _ hi hl HFX.out HST.out HAPP.out (by rw [HND.out])
  have HRUN := Lib.hid hst0
  clear hst0 HAPP c5 z5 x4
  have HKL : Hid ((cutKids G (i, l)).length = (nd G i).args.length) := Lib.hid (by rw [HKD.out]; simp [kids])
  go_loopw [13, 71] (fun v12 v55 wr => ∃ (j : Nat) (va : Value) (idxs : List Int) (outs2 : List (Nat × Nat)) (rows2 : List (Nd × Value)) (v2 : Value), j ≤ (nd G i).args.length ∧ v12 = va ∧ v55 = .int .i64 j ∧
    KRun G (some ⟨b, o, none⟩) N c w0 L w (i, l) outs rows (.slice Av outs.length cv) j va idxs wr outs2 rows2 v2) (fun _ v55 _ => (nd G i).args.length - (intOf v55).toNat)
  case atStart => exact ⟨0, _, _, _, _, _, by omega, rfl, rfl, HRUN.out⟩
  case round =>
    clear HRUN
    obtain ⟨j, va, idxs, outs2, rows2, v2, hj, rfl, rfl, R⟩ := hrel
    by_cases hja : j < (nd G i).args.length
    · have hkj : j < (kids G i).length := by simp [kids]; exact hja
      have hkj' : j < (cutKids G (i, l)).length := by rw [HKL.out]; exact hja
      have hG := HG.out
      have hkr := hG.kids (i := i) (by omega) (List.getElem_mem hkj)
      obtain ⟨a, ha⟩ : ∃ a, (kids G i)[j] = a := ⟨_, rfl⟩
      rw [ha] at hkr
      have hck : (cutKids G (i, l))[j] = cutNorm G (a, l - 1) := by
        have e1 : (cutKids G (i, l))[j]? = ((kids G i).map fun a => cutNorm G (a, l - 1))[j]? := by rw [HKD.out]
        rw [List.getElem?_eq_getElem hkj', List.getElem?_map, List.getElem?_eq_getElem hkj, ha] at e1
        exact Option.some.inj e1
      have hval : (nd G i).args[j] = (a : Int) := by
        have e1 := hG.args (i := i) (by omega)
        have e2 : (nd G i).args[j]? = ((kids G i).map Int.ofNat)[j]? := by rw [e1]
        simp [hja, hkj, ha] at e2
        exact e2
      obtain ⟨b', o', hA', hc'⟩ := (P5.out.ext R.fix.ext).2 (by omega)
      have hc := hc' j hja
      rw [hval] at hc
      obtain ⟨Aa, ka, rfl, hka⟩ := R.own.shape
      have gv := R.fix.cv
      have HR2 := Lib.hid R
      have HA := Lib.hid hck
      clear hG hc' hval R ha hck
      subst hA'
      go_wp2_with fail
      obtain ⟨mg, hgrow⟩ := HR2.out.grow
      have hlen2 : outs.length + 1 ≤ outs2.length := by
        rw [hgrow]; simp
      refine (HIH.out a wr outs2 rows2 v2 (by omega) HR2.out.fix HR2.out.st).mono ?_
      rintro e5 w5 ⟨k, outs3, rows3, v3, rfl, hk3, st3, ch3, d3, pre3, done3, blk3, new3, _⟩
      have R := HR2.out
      have ok := HOK.out
      have hv2 : ∀ g, v2.ownBlock = some g → L.M ≤ g := fun g hg => (R.st.own.block hg).1
      have hvaM : ∀ g, (Value.slice Aa idxs.length ka).ownBlock = some g → L.M ≤ g := fun g hg => (R.own.block hg).1
      have hva : ∀ g, (Value.slice Aa idxs.length ka).ownBlock = some g → ¬ KMay L v2 g := by
        rintro g hg (e | e | e)
        · have := hvaM g hg; have := ok.po; omega
        · have := hvaM g hg; have := ok.bm; omega
        · exact R.st.own.apart R.own hg e
      have own5 := ch3.ownI R.own hva
      have fix5 := R.fix.chg ok ch3 hv2
      have hlen3 : Hid (idxs.length = j) := Lib.hid (by rw [R.args.length, List.length_take]; omega)
      have C5 := Lib.hid (R.chg.trans ch3 fun i hi hm => hm.mono R.blk hi)
      have ST3 := Lib.hid st3
      have HK3 := Lib.hid hk3
      have D3 := Lib.hid d3
      have PRE3 := Lib.hid pre3
      have DONE3 := Lib.hid done3
      have BLK3 := Lib.hid blk3
      have NEW3 := Lib.hid new3
      have FIX5 := Lib.hid fix5
      have OWN5 := Lib.hid own5
      have HSZ := Lib.hid ch3.size
      have HVA := Lib.hid hvaM
      have HSA := Lib.hid hargs
      clear R ok hv2 hvaM hva fix5 own5 st3 hk3 ch3 d3 pre3 done3 blk3 new3 hgrow hc gv
      go_wp2_with (at_builtin; refine wpList_app44 rfl _ _ rfl L.M (.slice Aa idxs.length ka) idxs rfl (OWN5.out.ext ((Ext.rfl' _).alloc _)) ⟨w5.heap.size, 0, none⟩ 1 (k : Int) rfl (by simp) (by have := hlen3.out; omega) (by have := FIX5.out.size; simp; omega) ?_)
      intro va' w6 own6 gr6 at6
      have R := HR2.out
      have ok := HOK.out
      have C56 : ChgS (KMay L (Value.slice Aa idxs.length ka)) w5 w6 := ((ChgS.refl (KMay L (Value.slice Aa idxs.length ka)) w5).alloc _).grown gr6 fun i hi => .inl (.inr (.inr hi))
      have CR : ChgS (fun g => (Value.slice Aa idxs.length ka).ownBlock = some g) w5 w6 := ((ChgS.refl (fun g => (Value.slice Aa idxs.length ka).ownBlock = some g) w5).alloc _).grown gr6 fun i hi => .inl hi
      obtain ⟨more3, he3⟩ := take_pre PRE3.out
      have hsep : ∀ r ∈ rows3, ∀ g, (Value.slice Aa idxs.length ka).ownBlock = some g → r.2.ownBlock ≠ some g := by
        intro r hr g hg e
        rw [he3] at hr
        rcases List.mem_append.1 hr with hr | hr
        · exact R.sep r hr g hg e
        · have h1 := NEW3.out r (by rw [he3]; simpa using hr) g e
          have h2 := (R.own.block hg).2.1
          omega
      have st6 : KSt G L w6 outs3 rows3 v3 := by
        refine ⟨CR.heap ST3.out.po fun e => ?_, CR.map ST3.out.map fun e => ?_, CR.ownN ST3.out.own (fun g hg e => ?_) fun r hr g hg e => ?_, ST3.out.len, ST3.out.tops, ST3.out.nodup, ST3.out.lt⟩
        · have := HVA.out _ e; have := ok.po; omega
        · have := HVA.out _ e; have := ok.bm; omega
        · exact ST3.out.own.apart OWN5.out e hg
        · exact hsep r hr g e hg
      obtain ⟨mo3, heo3⟩ := D3.out
      have hfresh : ∀ g, va'.ownBlock = some g → w.heap.size ≤ g := by
        intro g hg
        rcases at6 with h | h
        · exact R.fresh g (by rw [← h]; exact hg)
        · rw [h] at hg
          have := Option.some.inj hg
          have := C5.out.size
          omega
      have hRL := HRL.out
      have hl2 := R.st.len
      have hRun : KRun G (some ⟨b, o, none⟩) N c w0 L w (i, l) outs rows (.slice Av outs.length cv) (j + 1) va' (idxs ++ [(k : Int)]) w6 outs3 rows3 v3 := by
        refine ⟨FIX5.out.chg ok C56 HVA.out, st6, ?_, ?_, ?_, ?_, own6, hfresh, ?_, R.done.more ⟨mo3, heo3⟩ PRE3.out R.st.len (by have := DONE3.out; exact this), ?_, ?_, by simp⟩
        · exact (C5.out.alloc _).grown gr6 fun i hi => .inr (R.fresh i hi)
        · rcases BLK3.out with h | h
          · rcases R.blk with h' | h'
            · exact .inl (h.trans h')
            · exact .inr fun g hg => h' g (by rw [← h]; exact hg)
          · exact .inr fun g hg => by have := h g hg; have := R.chg.size; omega
        · obtain ⟨m, e⟩ := R.grow
          exact ⟨m ++ mo3, by rw [heo3, e, List.append_assoc]⟩
        · have h1 : rows.length + 1 ≤ rows2.length := by rw [hl2, hRL]; omega
          rw [he3, List.take_append_of_le_length h1]
          exact R.pre
        · rw [List.take_add_one, List.getElem?_eq_getElem hkj', HA.out]
          refine (R.args.imp fun x y _ _ h => ?_).append (.cons ?_ .nil)
          · obtain ⟨j, hj, e1, e2⟩ := h
            subst heo3
            exact ⟨j, by simp; omega, e1, by rw [List.getElem_append_left hj]; exact e2⟩
          · obtain ⟨h, e⟩ := HK3.out
            exact ⟨k, h, rfl, e⟩
        · intro r hr g hg e
          rcases at6 with h | h
          · exact hsep r hr g (by rw [← h]; exact hg) e
          · rw [h] at hg
            have h1 := Option.some.inj hg
            have h2 := ((ST3.out.own.args r hr).block e).2.1
            omega
        · intro r hr g hg
          have h1 : rows.length ≤ rows2.length := by rw [hl2, hRL]; omega
          rw [he3, List.drop_append_of_le_length h1] at hr
          rcases List.mem_append.1 hr with hr | hr
          · exact R.new r hr g hg
          · have h2 := NEW3.out r (by rw [he3]; simpa using hr) g hg
            have := R.chg.size
            omega
      have HRUN := Lib.hid hRun
      clear hRun hl2 hRL hfresh st6 hsep C56 CR R ok own6 gr6 at6 he3 heo3
      go_wp2
      exact ⟨⟨j + 1, _, _, _, _, _, by omega, rfl, by go_num, HRUN.out⟩, by simp [intOf]; omega⟩
    · obtain rfl : (nd G i).args.length = j := by omega
      obtain ⟨mg, hgrow⟩ := R.grow
      have hlen2 : outs.length + 1 ≤ outs2.length := by
        rw [hgrow]; simp
      have hl2 := R.st.len
      have hRL := HRL.out
      have hk0 : outs.length < rows2.length := by omega
      obtain ⟨g, cap, cur, hv2, hMg, hgh, hcap, _⟩ := R.st.own.at (by omega)
      subst hv2
      have hcells := (R.st.own.cell (g := g) rfl outs.length hk0).2.2.2
      have hset := R.st.own.setArgs (g := g) rfl hk0 R.own R.nilv
      obtain ⟨Aa, ka, rfl, hka⟩ := R.own.shape
      have c1 : wr.cell? ⟨L.po, 0, none⟩ = some (.slice (some ⟨g, 0, none⟩) rows2.length cap) := by
        have := R.st.po
        simp [World.cell?, this]
      have fz : wr.frozen? ⟨g, outs.length * 4 + 3, none⟩ = false := by simp [World.frozen?, hgh]
      have hro : outs.length < rows2.length := hk0
      have hro2 : rows2.length ≤ 1000000 := by have := R.st.le; omega
      have HS := Lib.hid hset
      have HR2 := Lib.hid R
      have HL2 := Lib.hid hl2
      have HRL2 := Lib.hid hRL
      clear hgh hgrow hset R hl2 hRL
      go_wp2
      go_ret
      have R := HR2.out
      have ok := HOK.out
      have hl2 := HL2.out
      have hRL := HRL2.out
      have hgw : ∀ (u : Nat), u = g → KMay L (Value.slice (some ⟨g, 0, none⟩) rows2.length cap) u := fun u e => .inr (.inr (by rw [e]; rfl))
      have CS : ChgS (fun j => j = g) wr (wr.setCell ⟨g, outs.length * 4 + 3, none⟩ (.slice Aa idxs.length ka)) := (ChgS.refl (fun j => j = g) wr).set (.inl rfl) _ _
      have hMpo := ok.po
      have hMbm := ok.bm
      have hpre : rows2[outs.length]? = some (cutNode G (i, l), .slice none 0 0) := by
        have h1 : (rows2.take (rows.length + 1))[outs.length]? = rows2[outs.length]? := by rw [List.getElem?_take]; simp; omega
        rw [← h1, R.pre, List.getElem?_append_right (by omega)]
        simp [hRL]
      have hpre' : rows2[outs.length]'hk0 = (cutNode G (i, l), .slice none 0 0) := by
        rw [List.getElem?_eq_getElem hk0] at hpre
        exact Option.some.inj hpre
      have hout0 : outs2[outs.length]? = some (i, l) := by
        obtain ⟨m, e⟩ := R.grow
        rw [e]; simp
      have hout0' : outs2[outs.length]'(by omega) = (i, l) := by
        rw [List.getElem?_eq_getElem (by omega)] at hout0
        exact Option.some.inj hout0
      refine ⟨outs.length, outs2, _, _, rfl, ⟨by omega, by rw [hout0']⟩, ⟨CS.heap R.st.po (by omega), CS.map R.st.map (by omega), HS.out, by simpa using hl2, ?_, R.st.nodup, R.st.lt⟩, ?_, ?_, ?_, ?_, R.blk, ?_, fun _ => rfl⟩
      · intro k h h'
        have hk : k < rows2.length := by simpa using h
        have := R.st.tops k hk h'
        rw [List.getElem_set]
        split
        · rename_i e; subst e; exact this
        · exact this
      · refine R.chg.set ?_ _ _
        rcases R.blk with h | h
        · exact .inl (.inr (.inr (by rw [← h]; rfl)))
        · exact .inr (h g rfl)
      · obtain ⟨m, e⟩ := R.grow
        exact ⟨[(i, l)] ++ m, by rw [e, List.append_assoc]⟩
      · rw [List.take_set_of_le (by omega)]
        have h1 : rows2.take rows.length = (rows2.take (rows.length + 1)).take rows.length := by rw [List.take_take]; congr 1; omega
        rw [h1, R.pre]; simp
      · intro k h1 h2 h3
        have hk : k < rows2.length := by simpa using h2
        rw [List.getElem_set]
        split
        · rename_i e
          subst e
          have := R.args
          rw [List.take_of_length_le (by rw [HKL.out]; omega)] at this
          rw [hout0']
          exact this
        · exact R.done k (by omega) hk h3
      · intro r hr g' hg'
        rw [List.mem_iff_getElem] at hr
        obtain ⟨q, hq, rfl⟩ := hr
        rw [List.getElem_drop] at hg'
        have hq' : rows.length + q < rows2.length := by simp at hq; omega
        rw [List.getElem_set] at hg'
        split at hg'
        · exact R.fresh g' hg'
        · exact R.new _ (by rw [List.mem_iff_getElem]; exact ⟨q, by simp; omega, by rw [List.getElem_drop]⟩) g' hg'
end
end Go.Proofs.YtnleljpebnnhfaaGreatDoor

set_option linter.unusedSimpArgs false
set_option linter.unusedVariables false
namespace Go.Proofs.YtnleljpebnnhfaaGreatDoor
open Go.RowKit
theorem kvisit_any (G : List Nd) (hG : VG G) (A : Option Addr) (N c : Nat) (hN : G.length = N) (hmax : N ≤ 60000) (w0 : World) (hr : NdsRd w0 A G) (hnil : NilA w0 A G) (L : KPl) (ok : L.Ok w0.heap.size) :
    ∀ (l : Nat), l ≤ 12 → ∀ (i : Nat) (w : World) (outs : List (Nat × Nat)) (rows : List (Nd × Value)) (v : Value), i < N → KFix A N c w0 L w → KSt G L w outs rows v →
      Calls Tryz.prog 46 (#[.int .i64 i, .int .i64 l] ++ L.caps) w (KPost G L w (cutNorm G (i, l)) outs rows v) := by
  intro l
  induction l with
  | zero =>
    intro hl i w outs rows v hi hfix hst
    cases hlk : look (pairsK outs) (kI (cutNorm G (i, 0))) with
    | some u => exact kvisit_seen G A N c hN hmax w0 hr L i 0 w outs rows v hi hl hfix hst u hlk
    | none => exact kvisit_leaf G hG A N c hN hmax w0 hr hnil L ok i 0 w outs rows v hi hl hfix hst hlk (.inr rfl)
  | succ l ih =>
    intro hl i w outs rows v hi hfix hst
    cases hlk : look (pairsK outs) (kI (cutNorm G (i, l + 1))) with
    | some u => exact kvisit_seen G A N c hN hmax w0 hr L i (l + 1) w outs rows v hi hl hfix hst u hlk
    | none =>
      by_cases h3 : (nd G i).kind = 3
      · refine kvisit_tup G hG A N c hN hmax w0 hr hnil L ok i (l + 1) w outs rows v hi hl hfix hst hlk h3 (by omega) ?_
        intro i' w' outs' rows' v' hi' hf' hs'
        have := ih (by omega) i' w' outs' rows' v' hi' hf' hs'
        have e : (((l + 1 : Nat) : Int) - 1) = (l : Int) := by omega
        rw [e]
        exact this
      · exact kvisit_leaf G hG A N c hN hmax w0 hr hnil L ok i (l + 1) w outs rows v hi hl hfix hst hlk (.inl h3)
theorem cutD_norm {G : List Nd} (hG : VG G) {a l : Nat} (ha : a < G.length) : cutD (den G a) (cutNorm G (a, l)).2 = cutD (den G a) l := by
  unfold cutNorm
  by_cases c3 : (nd G a).kind = 3
  · rw [if_pos c3]
  · rw [if_neg c3]
    funext p
    show cutD (den G a) 0 p = cutD (den G a) l p
    cases p with
    | nil =>
      have ht : cutTop (top G a) = top G a := by
        unfold cutTop
        rw [if_neg (by simpa [top, topN] using c3)]
      rw [cutD_eq (d := 0) (p := []) rfl, den_nil, Option.map_some, ht]
      rcases Nat.lt_or_ge 0 l with c | c
      · rw [cutD_lt (by simpa using c), den_nil]
      · rw [cutD_eq (by simp; omega), den_nil, Option.map_some, ht]
    | cons x p =>
      have hnone := den_leaf hG ha c3 (p := x :: p) (by simp)
      rw [cutD_gt (by simp)]
      unfold cutD
      rw [hnone]
      split
      · rfl
      · split <;> rfl
theorem cutNorm_fst (G : List Nd) (p : Nat × Nat) : (cutNorm G p).1 = p.1 := by unfold cutNorm; split <;> rfl
theorem valid_any_size {n : Nd} {s s' : Int} (h : validNd n s = true) (hk : n.kind ≠ 3) : validNd n s' = true := by
  unfold validNd at h ⊢
  rw [if_neg hk] at h ⊢
  exact h
theorem valid_op {n : Nd} {s : Int} (h : validNd n s = true) (hk : n.kind = 3) : n.num = 0 ∧ atomB n.label = true ∧ 1 ≤ n.args.length ∧ n.args.length ≤ 8 := by
  unfold validNd at h
  simp [hk] at h
  exact ⟨h.1.1.1.1, h.1.1.1.2, h.1.1.2, h.1.2⟩
theorem atom_cut : atomB cutLabel = true := by kernel_rfl
/-- The rows that the visits left are a valid graph. -/
theorem kvg {G : List Nd} (hG : VG G) {outs : List (Nat × Nat)} {rows : List (Nd × Value)} (hlen : rows.length = outs.length)
    (tops : ∀ k (h : k < rows.length) (h' : k < outs.length), rows[k].1.kind = (cutNode G outs[k]).kind ∧ rows[k].1.num = (cutNode G outs[k]).num ∧ rows[k].1.label = (cutNode G outs[k]).label)
    (lt : ∀ x ∈ outs, x.1 < G.length ∧ x.2 ≤ 12 ∧ cutNorm G x = x) (done : KDone G outs rows 0) : VG (rows.map (·.1)) := by
  intro n hn
  obtain ⟨r, hr, rfl⟩ := List.mem_map.1 hn
  obtain ⟨k, hk, rfl⟩ := List.mem_iff_getElem.1 hr
  have hk' : k < outs.length := by omega
  obtain ⟨t1, t2, t3⟩ := tops k hk hk'
  have hA := done k (by omega) hk hk'
  obtain ⟨l1, l2, l3⟩ := lt _ (List.getElem_mem hk')
  have hv := hG _ (nd_mem l1)
  have hAl := hA.length
  simp only [List.length_map]
  by_cases h3 : (nd G outs[k].1).kind = 3
  · by_cases hz : outs[k].2 = 0
    · have e : cutNode G outs[k] = ⟨2, 0, cutLabel, []⟩ := by unfold cutNode; rw [if_pos h3, if_pos hz]
      have e2 : cutKids G outs[k] = [] := by unfold cutKids; rw [if_neg (by simp [hz])]
      rw [e] at t1 t2 t3
      rw [e2] at hAl
      have ha : rows[k].1.args = [] := List.eq_nil_of_length_eq_zero hAl
      unfold validNd
      simp [t1, t2, t3, ha, atom_cut]
    · have e : cutNode G outs[k] = ⟨3, 0, (nd G outs[k].1).label, []⟩ := by unfold cutNode; rw [if_pos h3, if_neg hz]
      have e2 : cutKids G outs[k] = (kids G outs[k].1).map fun a => cutNorm G (a, outs[k].2 - 1) := by unfold cutKids; rw [if_pos ⟨h3, hz⟩]
      rw [e] at t1 t2 t3
      rw [e2] at hAl
      obtain ⟨o1, o2, o3, o4⟩ := valid_op hv h3
      simp [kids] at hAl
      unfold validNd
      simp only [t1, t2, t3]
      simp only [if_neg (show ¬ (3 : Int) = 0 by decide), if_neg (show ¬ (3 : Int) = 1 by decide), if_neg (show ¬ (3 : Int) = 2 by decide), if_true, o2, hAl, decide_true, Bool.true_and, Bool.and_eq_true, decide_eq_true_eq, List.all_eq_true]
      refine ⟨⟨o3, o4⟩, fun a ha => ?_⟩
      obtain ⟨x, _, j, hj, e, _⟩ := hA.mem_left ha
      unfold inB
      simp [e]
      omega
  · have e : cutNode G outs[k] = nd G outs[k].1 := by unfold cutNode; rw [if_neg h3]
    have e2 : cutKids G outs[k] = [] := by unfold cutKids; rw [if_neg (by simp [h3])]
    rw [e] at t1 t2 t3
    rw [e2] at hAl
    have ha : rows[k].1.args = [] := List.eq_nil_of_length_eq_zero hAl
    have ha2 := valid_leaf hv h3
    have : rows[k].1 = nd G outs[k].1 := by
      cases hx : rows[k].1
      cases hy : nd G outs[k].1
      rw [hx] at t1 t2 t3 ha
      rw [hy] at t1 t2 t3 ha2
      simp at t1 t2 t3 ha ha2
      simp [t1, t2, t3, ha, ha2]
    rw [this]
    exact valid_any_size hv h3
theorem kden {G : List Nd} (hG : VG G) {outs : List (Nat × Nat)} {rows : List (Nd × Value)} (hlen : rows.length = outs.length)
    (tops : ∀ k (h : k < rows.length) (h' : k < outs.length), rows[k].1.kind = (cutNode G outs[k]).kind ∧ rows[k].1.num = (cutNode G outs[k]).num ∧ rows[k].1.label = (cutNode G outs[k]).label)
    (lt : ∀ x ∈ outs, x.1 < G.length ∧ x.2 ≤ 12 ∧ cutNorm G x = x) (done : KDone G outs rows 0) {r l : Nat} (hr : r < G.length) {k : Nat} (hk : k < outs.length) (hk2 : outs[k] = cutNorm G (r, l)) :
    den (rows.map (·.1)) k = cutD (den G r) l := by
  have hnd : ∀ k (h : k < rows.length), nd (rows.map (·.1)) k = rows[k].1 := fun k h => by rw [nd_eq (by simpa using h)]; simp
  funext p
  rw [den_cut hG (C := rows.map (·.1)) (outs := outs) (fun k h => ⟨(lt _ (List.getElem_mem h)).1, (lt _ (List.getElem_mem h)).2.2⟩) ?_ p k hk, hk2, cutNorm_fst, cutD_norm hG hr]
  intro k h
  have hk' : k < rows.length := by omega
  obtain ⟨t1, t2, t3⟩ := tops k hk' h
  rw [hnd k hk']
  refine ⟨t1, t2, t3, ?_⟩
  have hA := done k (by omega) hk' h
  have : kids (rows.map (·.1)) k = rows[k].1.args.map Int.toNat := by simp [kids, hnd k hk']
  rw [this]
  refine All2.of_get (by simpa using hA.length) fun q h1 h2 => ?_
  obtain ⟨j, hj, e1, e2⟩ := hA.get q (by simpa using h1) h2
  simp only [List.getElem_map, e1, Int.toNat_natCast]
  exact ⟨hj, e2⟩
end Go.Proofs.YtnleljpebnnhfaaGreatDoor

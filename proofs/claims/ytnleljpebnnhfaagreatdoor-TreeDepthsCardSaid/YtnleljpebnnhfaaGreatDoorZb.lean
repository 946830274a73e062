/- Plain laws: what a graph denotes, the least graph, the cut. -/
import Derived.Test.YtnleljpebnnhfaaGreatDoorZa
import Derived.Sort.Walk0

set_option linter.unusedSimpArgs false
set_option linter.unusedVariables false
namespace Go.Proofs.YtnleljpebnnhfaaGreatDoor
/-- Two rows stand in a relation, place by place. -/
inductive All2 {α β : Type} (R : α → β → Prop) : List α → List β → Prop
  | nil : All2 R [] []
  | cons {a b l m} : R a b → All2 R l m → All2 R (a :: l) (b :: m)
namespace All2
variable {α β γ : Type} {R : α → β → Prop}
theorem length {l m} (h : All2 R l m) : l.length = m.length := by
  induction h with
  | nil => rfl
  | cons _ _ ih => simp [ih]
theorem append {a b c d} (h : All2 R a b) (k : All2 R c d) : All2 R (a ++ c) (b ++ d) := by
  induction h with
  | nil => exact k
  | cons x _ ih => exact .cons x ih
theorem imp {S : α → β → Prop} {l m} (h : All2 R l m) (f : ∀ a b, a ∈ l → b ∈ m → R a b → S a b) : All2 S l m := by
  induction h with
  | nil => exact .nil
  | cons x _ ih => exact .cons (f _ _ (by simp) (by simp) x) (ih fun a b ha hb => f a b (by simp [ha]) (by simp [hb]))
theorem get {l m} (h : All2 R l m) : ∀ i (h1 : i < l.length) (h2 : i < m.length), R l[i] m[i] := by
  induction h with
  | nil => intro i h1; simp at h1
  | cons x _ ih =>
    intro i h1 h2
    cases i with
    | zero => exact x
    | succ i => exact ih i (by simpa using h1) (by simpa using h2)
theorem of_get {l : List α} {m : List β} (hl : l.length = m.length) (h : ∀ i (h1 : i < l.length) (h2 : i < m.length), R l[i] m[i]) : All2 R l m := by
  induction l generalizing m with
  | nil =>
    cases m with
    | nil => exact .nil
    | cons _ _ => simp at hl
  | cons a l ih =>
    cases m with
    | nil => simp at hl
    | cons b m =>
      refine .cons (h 0 (by simp) (by simp)) (ih (by simpa using hl) fun i h1 h2 => ?_)
      have := h (i + 1) (by simpa using h1) (by simpa using h2)
      simpa using this
theorem flip {l m} (h : All2 R l m) : All2 (fun b a => R a b) m l := by
  induction h with
  | nil => exact .nil
  | cons x _ ih => exact .cons x ih
theorem trans {S : β → γ → Prop} {T : α → γ → Prop} {l m n} (h : All2 R l m) (k : All2 S m n) (f : ∀ a b c, R a b → S b c → T a c) : All2 T l n := by
  induction h generalizing n with
  | nil => cases k; exact .nil
  | cons x _ ih => cases k with | cons y k => exact .cons (f _ _ _ x y) (ih k)
theorem mem_left {l m} (h : All2 R l m) {a} (ha : a ∈ l) : ∃ b ∈ m, R a b := by
  induction h with
  | nil => simp at ha
  | cons x _ ih =>
    rcases List.mem_cons.1 ha with rfl | ha
    · exact ⟨_, by simp, x⟩
    · obtain ⟨b, hb, r⟩ := ih ha; exact ⟨b, by simp [hb], r⟩
theorem mem_right {l m} (h : All2 R l m) {b} (hb : b ∈ m) : ∃ a ∈ l, R a b := h.flip.mem_left hb
theorem of_map_eq {δ : Type} {f : α → δ} {g : β → δ} {l : List α} {m : List β} (h : l.map f = m.map g) : All2 (fun a b => f a = g b) l m :=
  of_get (by simpa using congrArg List.length h) fun i h1 h2 => by
    have : (l.map f)[i]? = (m.map g)[i]? := by rw [h]
    simpa [h1, h2] using this
theorem map_eq {δ : Type} {f : α → δ} {g : β → δ} {l : List α} {m : List β} (h : All2 (fun a b => f a = g b) l m) : l.map f = m.map g := by
  induction h with
  | nil => rfl
  | cons x _ ih => simp [x, ih]
theorem refl_of {R : α → α → Prop} {l : List α} (h : ∀ a ∈ l, R a a) : All2 R l l := by
  induction l with
  | nil => exact .nil
  | cons a l ih => exact .cons (h a (by simp)) (ih fun b hb => h b (by simp [hb]))
end All2
/-- A node without its arguments. -/
structure Top where
  kind : Int
  num : Int
  label : ByteArray
  ar : Nat
  deriving DecidableEq
def nd (G : List Nd) (i : Nat) : Nd := G.getD i default
def topN (n : Nd) : Top := ⟨n.kind, n.num, n.label, n.args.length⟩
def top (G : List Nd) (i : Nat) : Top := topN (nd G i)
def kids (G : List Nd) (i : Nat) : List Nat := (nd G i).args.map Int.toNat
/-- All nodes are valid. -/
def VG (G : List Nd) : Prop := ∀ n ∈ G, validNd n G.length = true
theorem nd_eq {G : List Nd} {i : Nat} (h : i < G.length) : nd G i = G[i] := by simp [nd, h]
theorem nd_mem {G : List Nd} {i : Nat} (h : i < G.length) : nd G i ∈ G := by rw [nd_eq h]; exact List.getElem_mem h
theorem kids_length (G : List Nd) (i : Nat) : (kids G i).length = (top G i).ar := by simp [kids, top, topN]
/-- What a valid node gives. -/
theorem valid_args {n : Nd} {s : Int} (h : validNd n s = true) : ∀ a ∈ n.args, 0 ≤ a ∧ a < s := by
  intro a ha
  unfold validNd at h
  split at h
  · simp at h; rw [h.2] at ha; cases ha
  split at h
  · simp at h; rw [h.2] at ha; cases ha
  split at h
  · simp at h; rw [h.2] at ha; cases ha
  split at h
  · simp only [Bool.and_eq_true, List.all_eq_true, inB, decide_eq_true_eq] at h
    exact h.2 a ha
  split at h
  · simp at h; rw [h.2] at ha; cases ha
  · cases h
theorem valid_ar {n : Nd} {s : Int} (h : validNd n s = true) : n.args.length ≤ 8 := by
  unfold validNd at h
  split at h
  · simp at h; simp [h.2]
  split at h
  · simp at h; simp [h.2]
  split at h
  · simp at h; simp [h.2]
  split at h
  · simp only [Bool.and_eq_true, decide_eq_true_eq] at h; omega
  split at h
  · simp at h; simp [h.2]
  · cases h
/-- Validity hangs on the node without arguments, and on the arguments' bounds. -/
theorem valid_of {n m : Nd} {s t : Int} (h : validNd n s = true) (ht : topN m = topN n) (ha : ∀ a ∈ m.args, 0 ≤ a ∧ a < t) : validNd m t = true := by
  obtain ⟨k1, n1, l1, a1⟩ := n
  obtain ⟨k2, n2, l2, a2⟩ := m
  simp only [topN, Top.mk.injEq] at ht
  obtain ⟨rfl, rfl, rfl, hl⟩ := ht
  have he : a1.isEmpty = a2.isEmpty := by
    rw [Bool.eq_iff_iff, List.isEmpty_iff, List.isEmpty_iff, ← List.length_eq_zero_iff, ← List.length_eq_zero_iff, hl]
  have hall : a2.all (inB t) = true := by
    rw [List.all_eq_true]
    intro a h
    have := ha a h
    simp [inB, this.1, this.2]
  simp only [validNd] at h ⊢
  rw [he, ← hl] at h
  split at h
  · rename_i h0; rw [if_pos h0]; exact h
  rename_i h0; rw [if_neg h0]
  split at h
  · rename_i h0; rw [if_pos h0]; exact h
  rename_i h0; rw [if_neg h0]
  split at h
  · rename_i h0; rw [if_pos h0]; exact h
  rename_i h0; rw [if_neg h0]
  split at h
  · rename_i h0; rw [if_pos h0]
    simp only [Bool.and_eq_true] at h ⊢
    exact ⟨h.1, hall⟩
  rename_i h0; rw [if_neg h0]
  split at h
  · rename_i h0; rw [if_pos h0]; exact h
  · cases h
theorem VG.kids {G : List Nd} (h : VG G) {i j : Nat} (hi : i < G.length) (hj : j ∈ kids G i) : j < G.length := by
  simp only [Go.Proofs.YtnleljpebnnhfaaGreatDoor.kids, List.mem_map] at hj
  obtain ⟨a, ha, rfl⟩ := hj
  have := valid_args (h _ (nd_mem hi)) a ha
  omega
theorem VG.args {G : List Nd} (h : VG G) {i : Nat} (hi : i < G.length) : (nd G i).args = (Go.Proofs.YtnleljpebnnhfaaGreatDoor.kids G i).map Int.ofNat := by
  simp only [Go.Proofs.YtnleljpebnnhfaaGreatDoor.kids, List.map_map]
  have : ∀ a ∈ (nd G i).args, (Int.ofNat ∘ Int.toNat) a = a := fun a ha => by
    have := valid_args (h _ (nd_mem hi)) a ha
    simp; omega
  rw [List.map_congr_left this]; simp
/-- What a node denotes: which node stands at which place of its tree. -/
def den (G : List Nd) : Nat → List Nat → Option Top
  | i, [] => some (top G i)
  | i, k :: p => match (kids G i)[k]? with
    | some j => den G j p
    | none => none
theorem den_nil (G : List Nd) (i : Nat) : den G i [] = some (top G i) := rfl
theorem den_cons (G : List Nd) (i k : Nat) (p : List Nat) : den G i (k :: p) = match (kids G i)[k]? with | some j => den G j p | none => none := rfl
theorem den_top {G H : List Nd} {i j : Nat} (h : den G i = den H j) : top G i = top H j := by
  have := congrFun h []
  simpa [den] using this
theorem den_kid {G H : List Nd} {i j : Nat} (h : den G i = den H j) : All2 (fun a b => den G a = den H b) (kids G i) (kids H j) :=
  All2.of_get (by rw [kids_length, kids_length, den_top h]) fun k h1 h2 => by
    funext p
    have := congrFun h (k :: p)
    simpa [den, h1, h2] using this
/-- Nodes that are related by a relation that goes down denote the same. -/
theorem den_coind {G H : List Nd} (R : Nat → Nat → Prop) (ht : ∀ i j, R i j → top G i = top H j) (hk : ∀ i j, R i j → All2 R (kids G i) (kids H j)) : ∀ i j, R i j → den G i = den H j := by
  have : ∀ p i j, R i j → den G i p = den H j p := by
    intro p
    induction p with
    | nil => intro i j h; simp [den, ht i j h]
    | cons k p ih =>
      intro i j h
      have hl := (hk i j h).length
      simp only [den]
      by_cases hlt : k < (kids G i).length
      · have hlt' : k < (kids H j).length := by omega
        rw [List.getElem?_eq_getElem hlt, List.getElem?_eq_getElem hlt']
        exact ih _ _ ((hk i j h).get k hlt hlt')
      · rw [List.getElem?_eq_none (by omega), List.getElem?_eq_none (by omega)]
  intro i j h
  funext p
  exact this p i j h
/-- The same, of a tree that is given otherwise. -/
theorem den_iff {G H : List Nd} {i j : Nat} : den G i = den H j ↔ top G i = top H j ∧ All2 (fun a b => den G a = den H b) (kids G i) (kids H j) := by
  refine ⟨fun h => ⟨den_top h, den_kid h⟩, fun ⟨ht, hk⟩ => ?_⟩
  funext p
  cases p with
  | nil => simp [den, ht]
  | cons k p =>
    have hl := hk.length
    simp only [den]
    by_cases hlt : k < (kids G i).length
    · have hlt' : k < (kids H j).length := by omega
      rw [List.getElem?_eq_getElem hlt, List.getElem?_eq_getElem hlt']
      exact congrFun (hk.get k hlt hlt') p
    · rw [List.getElem?_eq_none (by omega), List.getElem?_eq_none (by omega)]
/-- Search in depth: the stack (its first is looked at next), what was met, what is met at last. Nodes are told apart by keys. -/
inductive Dfs (kd : Nat → List Nat) (key : Nat → Nat) : List Nat → List Nat → List Nat → Prop
  | nil (out) : Dfs kd key [] out out
  | skip {i st out r} : key i ∈ out.map key → Dfs kd key st out r → Dfs kd key (i :: st) out r
  | visit {i st out r} : key i ∉ out.map key → Dfs kd key (kd i ++ st) (out ++ [i]) r → Dfs kd key (i :: st) out r
section
variable {kd kd' : Nat → List Nat} {key key' : Nat → Nat}
theorem Dfs.det {st out r r'} (h : Dfs kd key st out r) (h' : Dfs kd key st out r') : r = r' := by
  induction h with
  | nil => cases h'; rfl
  | skip hm _ ih =>
    cases h' with
    | skip _ h' => exact ih h'
    | visit hm' _ => exact absurd hm hm'
  | visit hm _ ih =>
    cases h' with
    | skip hm' _ => exact absurd hm' hm
    | visit _ h' => exact ih h'
theorem Dfs.append {a b out m r} (h : Dfs kd key a out m) (k : Dfs kd key b m r) : Dfs kd key (a ++ b) out r := by
  induction h with
  | nil => exact k
  | skip hm _ ih => exact .skip hm (ih k)
  | visit hm _ ih => exact .visit hm (by simpa using ih k)
theorem Dfs.one {i out r} (hm : key i ∉ out.map key) (h : Dfs kd key (kd i) (out ++ [i]) r) : Dfs kd key [i] out r := .visit hm (by simpa using h)
theorem Dfs.grow {st out r} (h : Dfs kd key st out r) : ∃ more, r = out ++ more := by
  induction h with
  | nil out => exact ⟨[], by simp⟩
  | skip _ _ ih => exact ih
  | visit _ _ ih => obtain ⟨m, e⟩ := ih; exact ⟨_, by rw [e, List.append_assoc]⟩
theorem Dfs.met {st out r} (h : Dfs kd key st out r) : ∀ i ∈ st, key i ∈ r.map key := by
  induction h with
  | nil => intro i hi; cases hi
  | skip hm h ih =>
    intro j hj
    rcases List.mem_cons.1 hj with rfl | hj
    · obtain ⟨m, e⟩ := h.grow; rw [e, List.map_append]; exact List.mem_append_left _ hm
    · exact ih j hj
  | visit hm h ih =>
    intro j hj
    rcases List.mem_cons.1 hj with rfl | hj
    · obtain ⟨m, e⟩ := h.grow; rw [e]; simp
    · exact ih j (by simp [hj])
/-- What is met leads to what is met. -/
theorem Dfs.closed {st out r} (h : Dfs kd key st out r) (P : Nat → Prop) (h0 : ∀ i ∈ out, ∀ j ∈ kd i, P j ∨ j ∈ st ∨ key j ∈ out.map key) : ∀ i ∈ r, ∀ j ∈ kd i, P j ∨ key j ∈ r.map key := by
  induction h with
  | nil =>
    intro i hi j hj
    rcases h0 i hi j hj with h | h | h
    · exact .inl h
    · cases h
    · exact .inr h
  | skip hm h ih =>
    refine ih fun i hi j hj => ?_
    rcases h0 i hi j hj with h | h | h
    · exact .inl h
    · rcases List.mem_cons.1 h with rfl | h
      · exact .inr (.inr hm)
      · exact .inr (.inl h)
    · exact .inr (.inr h)
  | visit hm h ih =>
    rename_i i0 st0 out0 r0
    refine ih fun i hi j hj => ?_
    rcases List.mem_append.1 hi with hi | hi
    · rcases h0 i hi j hj with h | h | h
      · exact .inl h
      · rcases List.mem_cons.1 h with rfl | h
        · exact .inr (.inr (by simp))
        · exact .inr (.inl (by simp [h]))
      · exact .inr (.inr (by rw [List.map_append]; exact List.mem_append_left _ h))
    · obtain rfl : i = i0 := by simpa using hi
      exact .inr (.inl (by simp [hj]))
theorem Dfs.nodup {st out r} (h : Dfs kd key st out r) (h0 : (out.map key).Nodup) : (r.map key).Nodup := by
  induction h with
  | nil => exact h0
  | skip _ _ ih => exact ih h0
  | visit hm _ ih =>
    refine ih ?_
    rw [List.map_append, List.nodup_append]
    refine ⟨h0, by simp, fun a ha b hb => ?_⟩
    have hb' := List.mem_singleton.1 (by simpa using hb)
    exact fun e => hm (by rw [← hb', ← e]; exact ha)
theorem Dfs.all {P : Nat → Prop} (hk : ∀ i, P i → ∀ j ∈ kd i, P j) {st out r} (h : Dfs kd key st out r) (hs : ∀ i ∈ st, P i) (ho : ∀ i ∈ out, P i) : ∀ i ∈ r, P i := by
  induction h with
  | nil => exact ho
  | skip _ _ ih => exact ih (fun i hi => hs i (by simp [hi])) ho
  | visit _ _ ih =>
    rename_i i0 st0 out0 r0 _ _
    refine ih (fun i hi => ?_) (fun i hi => ?_)
    · rcases List.mem_append.1 hi with hi | hi
      · exact hk _ (hs i0 (by simp)) i hi
      · exact hs i (by simp [hi])
    · rcases List.mem_append.1 hi with hi | hi
      · exact ho i hi
      · have : i = i0 := by simpa using hi
        exact this ▸ hs i0 (by simp)
/-- Searches of two graphs that go side by side. -/
theorem Dfs.par {R : Nat → Nat → Prop} (hk : ∀ i j, R i j → All2 R (kd i) (kd' j)) (hkey : ∀ i j i' j', R i j → R i' j' → (key i = key i' ↔ key' j = key' j')) {st out r} (h : Dfs kd key st out r) :
    ∀ {st' out'}, All2 R st st' → All2 R out out' → ∃ r', Dfs kd' key' st' out' r' ∧ All2 R r r' := by
  have hmem : ∀ {i j : Nat} {out out' : List Nat}, R i j → All2 R out out' → (key i ∈ out.map key ↔ key' j ∈ out'.map key') := by
    intro i j out out' hij ho
    simp only [List.mem_map]
    constructor
    · rintro ⟨a, ha, e⟩
      obtain ⟨b, hb, r⟩ := ho.mem_left ha
      exact ⟨b, hb, (hkey _ _ _ _ r hij).1 e⟩
    · rintro ⟨b, hb, e⟩
      obtain ⟨a, ha, r⟩ := ho.mem_right hb
      exact ⟨a, ha, (hkey _ _ _ _ r hij).2 e⟩
  induction h with
  | nil => intro st' out' hs ho; cases hs; exact ⟨_, .nil _, ho⟩
  | skip hm _ ih =>
    intro st' out' hs ho
    cases hs with
    | cons hij hs =>
      obtain ⟨r', h1, h2⟩ := ih hs ho
      exact ⟨r', .skip ((hmem hij ho).1 hm) h1, h2⟩
  | visit hm _ ih =>
    intro st' out' hs ho
    cases hs with
    | cons hij hs =>
      obtain ⟨r', h1, h2⟩ := ih ((hk _ _ hij).append hs) (ho.append (.cons hij .nil))
      exact ⟨r', .visit (fun h => hm ((hmem hij ho).2 h)) h1, h2⟩
end
/-- The least graph of a tree. -/
structure Canon (C : List Nd) (D : List Nat → Option Top) : Prop where
  vg : VG C
  pos : 0 < C.length
  root : den C 0 = D
  inj : ∀ i j, i < C.length → j < C.length → den C i = den C j → i = j
  ord : Dfs (kids C) id [0] [] (List.range C.length)
theorem Canon.len_eq {C C' : List Nd} {D} (h : Canon C D) (h' : Canon C' D) : All2 (fun i j => i < C.length ∧ j < C'.length ∧ den C i = den C' j) (List.range C.length) (List.range C'.length) := by
  obtain ⟨r', h1, h2⟩ := Dfs.par (kd' := kids C') (key' := id) (R := fun i j => i < C.length ∧ j < C'.length ∧ den C i = den C' j)
    (fun i j ⟨hi, hj, hd⟩ => (den_kid hd).imp fun a b ha hb hr => ⟨h.vg.kids hi ha, h'.vg.kids hj hb, hr⟩)
    (fun i j i' j' ⟨a1, a2, a3⟩ ⟨b1, b2, b3⟩ => ⟨fun e => h'.inj j j' a2 b2 (by rw [← a3, ← b3]; exact congrArg _ e), fun e => h.inj i i' a1 b1 (by rw [a3, b3]; exact congrArg _ e)⟩)
    h.ord (.cons ⟨h.pos, h'.pos, by rw [h.root, h'.root]⟩ .nil) .nil
  rw [h1.det h'.ord] at h2
  exact h2
/-- There is but one least graph of a tree. -/
theorem Canon.unique {C C' : List Nd} {D} (h : Canon C D) (h' : Canon C' D) : C = C' := by
  have hp := h.len_eq h'
  have hl : C.length = C'.length := by simpa using hp.length
  have hd : ∀ i, i < C.length → den C i = den C' i := fun i hi => by
    have := hp.get i (by simpa using hi) (by simpa [← hl] using hi)
    simpa using this.2.2
  refine List.ext_getElem hl fun i h1 h2 => ?_
  have e := hd i h1
  have et := den_top e
  have ek : kids C i = kids C' i := by
    have := (den_kid e).imp (S := fun a b => a = b) fun a b ha hb r => by
      have ha' := h.vg.kids h1 ha
      have hb' := h'.vg.kids h2 hb
      exact h'.inj _ _ (by omega) hb' ((hd a ha').symm.trans r)
    have := All2.map_eq (f := id) (g := id) this
    simpa using this
  have ea : (nd C i).args = (nd C' i).args := by rw [h.vg.args h1, h'.vg.args h2, ek]
  rw [← nd_eq h1, ← nd_eq h2]
  simp only [top, topN, Top.mk.injEq] at et
  cases hx : nd C i
  cases hy : nd C' i
  rw [hx, hy] at et ea
  simp at et ea
  simp [et, ea]
/-- A graph that was written down along a search in depth that tells nodes apart by what they denote is the least one. -/
theorem canon_of_dfs {G : List Nd} (hG : VG G) {key : Nat → Nat} {S : Nat → Prop} (hS : ∀ i, S i → i < G.length ∧ ∀ j ∈ kids G i, S j) (hkey : ∀ i j, S i → S j → (key i = key j ↔ den G i = den G j)) {r : Nat} (hr : S r) {out : List Nat}
    (hd : Dfs (kids G) key [r] [] out) {C : List Nd} (hlen : C.length = out.length) (hval : ∀ k, k < C.length → ∀ a ∈ (nd C k).args, 0 ≤ a)
    (hC : ∀ k (h : k < out.length), top C k = top G out[k] ∧ All2 (fun m a => ∃ h : m < out.length, key out[m] = key a) (kids C k) (kids G out[k])) : Canon C (den G r) := by
  have hSo : ∀ i ∈ out, S i := hd.all (fun i hi => (hS i hi).2) (by simpa using hr) (by simp)
  have hnd : (out.map key).Nodup := hd.nodup (by simp)
  let R : Nat → Nat → Prop := fun m a => ∃ h : m < out.length, S a ∧ key out[m] = key a
  have hR : ∀ m a, R m a → top C m = top G a ∧ All2 R (kids C m) (kids G a) := by
    rintro m a ⟨hm, ha, hk⟩
    have hde := (hkey _ _ (hSo _ (List.getElem_mem hm)) ha).1 hk
    refine ⟨(hC m hm).1.trans (den_top hde), ?_⟩
    have hSm := hSo _ (List.getElem_mem hm)
    have k1 : All2 (fun x y => S x ∧ den G x = den G y) (kids G out[m]) (kids G a) := (den_kid hde).imp fun x y hx hy hxy => ⟨(hS _ hSm).2 x hx, hxy⟩
    have k2 : All2 (fun x y => S y ∧ S x ∧ den G x = den G y) (kids G out[m]) (kids G a) := k1.imp fun x y hx hy hxy => ⟨(hS _ ha).2 y hy, hxy⟩
    exact (hC m hm).2.trans k2 fun x y z ⟨h, hxy⟩ ⟨hz, hy, hyz⟩ => ⟨h, hz, hxy.trans ((hkey _ _ hy hz).2 hyz)⟩
  have hdR : ∀ m a, R m a → den C m = den G a := den_coind R (fun i j h => (hR i j h).1) (fun i j h => (hR i j h).2)
  have hself : ∀ m (h : m < out.length), R m out[m] := fun m h => ⟨h, hSo _ (List.getElem_mem h), rfl⟩
  have hne : out ≠ [] := by
    intro e
    have := hd.met r (by simp)
    rw [e] at this; simp at this
  have hpos : 0 < out.length := List.length_pos_iff.2 hne
  have h0 : out[0] = r := by
    cases hd with
    | skip hm _ => simp at hm
    | visit _ h =>
      obtain ⟨m, e⟩ := h.grow
      simp [e]
  have hvg : VG C := by
    intro n hn
    obtain ⟨k, hk, rfl⟩ := List.mem_iff_getElem.1 hn
    have hk' : k < out.length := by omega
    have hv := hG _ (nd_mem (hS _ (hSo _ (List.getElem_mem hk'))).1)
    refine valid_of hv ?_ ?_
    · have := (hC k hk').1
      rw [top, top, nd_eq hk] at this
      exact this
    · intro a ha
      have ha' : a ∈ (nd C k).args := by rw [nd_eq hk]; exact ha
      have p0 := hval k hk a ha'
      refine ⟨p0, ?_⟩
      have hmem : a.toNat ∈ kids C k := List.mem_map.2 ⟨a, ha', rfl⟩
      obtain ⟨b, _, h, _⟩ := (hC k hk').2.mem_left hmem
      omega
  refine ⟨hvg, by omega, by rw [hdR 0 r ⟨hpos, hr, by rw [h0]⟩], ?_, ?_⟩
  · intro i j hi hj he
    rw [hdR i _ (hself i (by omega)), hdR j _ (hself j (by omega))] at he
    have hk := (hkey _ _ (hSo _ (List.getElem_mem (by omega))) (hSo _ (List.getElem_mem (by omega)))).2 he
    have e1 : (out.map key)[i]'(by simp; omega) = (out.map key)[j]'(by simp; omega) := by simpa using hk
    exact (List.getElem_inj hnd).1 e1
  · obtain ⟨r', h1, h2⟩ := Dfs.par (kd' := kids C) (key' := id) (R := fun a m => R m a) (fun i j h => (hR j i h).2.flip)
      (by
        rintro i j i' j' ⟨h1, s1, k1⟩ ⟨h2, s2, k2⟩
        constructor
        · intro e
          have e1 : (out.map key)[j]'(by simp; omega) = (out.map key)[j']'(by simp; omega) := by simp [k1, k2, e]
          exact (List.getElem_inj hnd).1 e1
        · intro e
          have e' : j = j' := e
          subst e'
          exact k1.symm.trans k2)
      hd (.cons ⟨hpos, hr, by rw [h0]⟩ .nil) .nil
    have hl : out.length = r'.length := h2.length
    have : r' = List.range C.length := by
      refine List.ext_getElem (by simp; omega) fun m m1 m2 => ?_
      obtain ⟨h, _, hk⟩ := h2.get m (by omega) m1
      have e1 : (out.map key)[r'[m]]'(by simp; omega) = (out.map key)[m]'(by simp; omega) := by simpa using hk
      simpa using (List.getElem_inj hnd).1 e1
    rw [← this]
    exact h1
end Go.Proofs.YtnleljpebnnhfaaGreatDoor

set_option linter.unusedSimpArgs false
set_option linter.unusedVariables false
namespace Go.Proofs.YtnleljpebnnhfaaGreatDoor
open Go.Op (bytesLess)
theorem bl_irrefl : ∀ x : List UInt8, bytesLess x x = false
  | [] => rfl
  | a :: x => by simp [bytesLess, bl_irrefl x]
theorem bl_tri : ∀ x y : List UInt8, bytesLess x y = false → bytesLess y x = false → x = y
  | [], [], _, _ => rfl
  | [], b :: y, h, _ => by simp [bytesLess] at h
  | a :: x, [], _, h => by simp [bytesLess] at h
  | a :: x, b :: y, h, k => by
    simp only [bytesLess, Bool.or_eq_false_iff, decide_eq_false_iff_not, Bool.and_eq_false_imp, beq_iff_eq, UInt8.lt_iff_toNat_lt] at h k
    have hab : a = b := UInt8.toNat_inj.1 (by omega)
    subst hab
    rw [bl_tri x y (h.2 rfl) (k.2 rfl)]
theorem bl_asymm : ∀ x y : List UInt8, bytesLess x y = true → bytesLess y x = false
  | [], [], h => by simp [bytesLess] at h
  | [], b :: y, _ => by simp [bytesLess]
  | a :: x, [], h => by simp [bytesLess] at h
  | a :: x, b :: y, h => by
    simp only [bytesLess, Bool.or_eq_true, decide_eq_true_eq, Bool.and_eq_true, beq_iff_eq, UInt8.lt_iff_toNat_lt] at h
    simp only [bytesLess, Bool.or_eq_false_iff, decide_eq_false_iff_not, Bool.and_eq_false_imp, beq_iff_eq, UInt8.lt_iff_toNat_lt]
    rcases h with h | ⟨rfl, h⟩
    · refine ⟨by omega, fun e => ?_⟩
      subst e; omega
    · exact ⟨by omega, fun _ => bl_asymm x y h⟩
theorem bl_trans : ∀ x y z : List UInt8, bytesLess x y = true → bytesLess y z = true → bytesLess x z = true
  | _, [], _, h, _ => by rename_i x _; cases x <;> simp [bytesLess] at h
  | _, b :: y, [], _, h => by simp [bytesLess] at h
  | [], b :: y, c :: z, _, _ => by simp [bytesLess]
  | a :: x, b :: y, c :: z, h, k => by
    simp only [bytesLess, Bool.or_eq_true, decide_eq_true_eq, Bool.and_eq_true, beq_iff_eq, UInt8.lt_iff_toNat_lt] at h k ⊢
    rcases h with h | ⟨rfl, h⟩
    · rcases k with k | ⟨rfl, k⟩
      · left; omega
      · left; exact h
    · rcases k with k | ⟨rfl, k⟩
      · left; exact k
      · right; exact ⟨rfl, bl_trans x y z h k⟩
/-- A comparison. -/
structure Cmp {α : Type} (c : α → α → Int) : Prop where
  anti : ∀ a b, c b a = - c a b
  rng : ∀ a b, c a b = -1 ∨ c a b = 0 ∨ c a b = 1
  trans : ∀ a b d, c a b ≤ 0 → c b d ≤ 0 → c a d ≤ 0
theorem Cmp.comap {α β : Type} {c : α → α → Int} (h : Cmp c) (f : β → α) : Cmp fun a b => c (f a) (f b) :=
  ⟨fun a b => h.anti _ _, fun a b => h.rng _ _, fun a b d => h.trans _ _ _⟩
theorem Cmp.self {α : Type} {c : α → α → Int} (h : Cmp c) (a : α) : c a a = 0 := by
  have := h.anti a a
  omega
theorem Cmp.zero_trans {α : Type} {c : α → α → Int} (h : Cmp c) {a b d : α} (h1 : c a b = 0) (h2 : c b d = 0) : c a d = 0 := by
  have t1 := h.trans a b d (by omega) (by omega)
  have a1 := h.anti a b
  have a2 := h.anti b d
  have a3 := h.anti a d
  have t2 := h.trans d b a (by omega) (by omega)
  omega
theorem Cmp.strict {α : Type} {c : α → α → Int} (h : Cmp c) {a b d : α} (h1 : c a b ≤ 0) (h2 : c b d ≤ 0) (h3 : c a d = 0) : c a b = 0 ∧ c b d = 0 := by
  have a1 := h.anti a b
  have a2 := h.anti b d
  have a3 := h.anti a d
  have t1 := h.trans b d a h2 (by omega)
  have t2 := h.trans d a b (by omega) h1
  omega
theorem Cmp.lex {α : Type} {c d : α → α → Int} (h : Cmp c) (k : Cmp d) : Cmp fun a b => orI (c a b) (d a b) := by
  refine ⟨fun a b => ?_, fun a b => ?_, fun a b e h1 h2 => ?_⟩
  · have := h.anti a b
    have := k.anti a b
    simp only [orI]
    split <;> split <;> omega
  · have := h.rng a b
    have := k.rng a b
    simp only [orI]
    split <;> omega
  · simp only [orI] at *
    have x1 : c a b ≤ 0 := by split at h1 <;> omega
    have x2 : c b e ≤ 0 := by split at h2 <;> omega
    have x3 := h.trans _ _ _ x1 x2
    split
    · rename_i hz
      obtain ⟨y1, y2⟩ := h.strict x1 x2 hz
      rw [if_pos y1] at h1
      rw [if_pos y2] at h2
      exact k.trans _ _ _ h1 h2
    · exact x3
theorem cmpI_cmp : Cmp cmpI := by
  refine ⟨fun a b => ?_, fun a b => ?_, fun a b d => ?_⟩
  · unfold cmpI; (repeat' split) <;> omega
  · unfold cmpI; (repeat' split) <;> omega
  · unfold cmpI; (repeat' split) <;> omega
theorem cmpI_zero {a b : Int} : cmpI a b = 0 ↔ a = b := by unfold cmpI; (repeat' split) <;> omega
theorem cmpS_zero {s t : ByteArray} : cmpS s t = 0 ↔ s = t := by
  unfold cmpS
  constructor
  · intro h
    split at h
    · omega
    · split at h
      · rename_i e; exact ByteArray.ext (Array.ext' (by rw [← Go.Lib.toList_data, ← Go.Lib.toList_data]; exact e))
      · omega
  · rintro rfl
    simp [bl_irrefl]
theorem cmpS_cmp : Cmp cmpS := by
  have hcase : ∀ s t : ByteArray, (cmpS s t = -1 ∧ bytesLess s.toList t.toList = true) ∨ (cmpS s t = 0 ∧ s.toList = t.toList) ∨ (cmpS s t = 1 ∧ bytesLess t.toList s.toList = true) := by
    intro s t
    unfold cmpS
    cases h1 : bytesLess s.toList t.toList with
    | true => simp
    | false =>
      by_cases h2 : s.toList = t.toList
      · simp [h2]
      · cases h3 : bytesLess t.toList s.toList with
        | true => simp [h2]
        | false => exact absurd (bl_tri _ _ h1 h3) h2
  refine ⟨fun a b => ?_, fun a b => ?_, fun a b d h1 h2 => ?_⟩
  · rcases hcase a b with ⟨e, h⟩ | ⟨e, h⟩ | ⟨e, h⟩
    · have := bl_asymm _ _ h
      rw [e]
      rcases hcase b a with ⟨e', h'⟩ | ⟨e', h'⟩ | ⟨e', h'⟩
      · rw [this] at h'; cases h'
      · rw [h', bl_irrefl] at h; cases h
      · exact e'
    · rw [e]; unfold cmpS; simp [h, bl_irrefl]
    · rw [e]; unfold cmpS; simp [h]
  · rcases hcase a b with ⟨e, _⟩ | ⟨e, _⟩ | ⟨e, _⟩ <;> simp [e]
  · rcases hcase a d with ⟨e, _⟩ | ⟨e, _⟩ | ⟨e, h⟩
    · omega
    · omega
    · rcases hcase a b with ⟨e1, k1⟩ | ⟨e1, k1⟩ | ⟨e1, k1⟩
      · rcases hcase b d with ⟨e2, k2⟩ | ⟨e2, k2⟩ | ⟨e2, k2⟩
        · have := bl_asymm _ _ (bl_trans _ _ _ k1 k2); rw [this] at h; cases h
        · rw [k2] at k1; have := bl_asymm _ _ k1; rw [this] at h; cases h
        · omega
      · rcases hcase b d with ⟨e2, k2⟩ | ⟨e2, k2⟩ | ⟨e2, k2⟩
        · rw [← k1] at k2; have := bl_asymm _ _ k2; rw [this] at h; cases h
        · rw [k1, k2, bl_irrefl] at h; cases h
        · omega
      · omega
theorem cmpTop_eq (m n : Nd) : cmpTop m n = orI (cmpI m.kind n.kind) (if m.kind = 3 then orI (cmpI m.args.length n.args.length) (cmpS m.label n.label) else orI (cmpS m.label n.label) (cmpI m.num n.num)) := by
  unfold cmpTop
  by_cases h : m.kind = n.kind
  · rw [if_pos h, show cmpI m.kind n.kind = 0 from cmpI_zero.2 h]; simp [orI]
  · rw [if_neg h]
    have : cmpI m.kind n.kind ≠ 0 := fun e => h (cmpI_zero.1 e)
    simp [orI, this]
theorem cmpTop_cmp : Cmp cmpTop := by
  have L1 : Cmp fun m n : Nd => orI (cmpI m.args.length n.args.length) (cmpS m.label n.label) := (cmpI_cmp.comap fun m : Nd => (m.args.length : Int)).lex (cmpS_cmp.comap fun m : Nd => m.label)
  have L2 : Cmp fun m n : Nd => orI (cmpS m.label n.label) (cmpI m.num n.num) := (cmpS_cmp.comap fun m : Nd => m.label).lex (cmpI_cmp.comap fun m : Nd => m.num)
  have hne : ∀ m n : Nd, m.kind ≠ n.kind → cmpTop m n = cmpI m.kind n.kind := fun m n h => by simp [cmpTop, h]
  have h3 : ∀ m n : Nd, m.kind = n.kind → m.kind = 3 → cmpTop m n = orI (cmpI m.args.length n.args.length) (cmpS m.label n.label) := fun m n h k => by simp [cmpTop, ← h, k]
  have h4 : ∀ m n : Nd, m.kind = n.kind → m.kind ≠ 3 → cmpTop m n = orI (cmpS m.label n.label) (cmpI m.num n.num) := fun m n h k => by simp [cmpTop, ← h, k]
  refine ⟨fun a b => ?_, fun a b => ?_, fun a b d h1 h2 => ?_⟩
  · by_cases h : a.kind = b.kind
    · by_cases k : a.kind = 3
      · rw [h3 a b h k, h3 b a h.symm (h ▸ k)]; exact L1.anti a b
      · rw [h4 a b h k, h4 b a h.symm (h ▸ k)]; exact L2.anti a b
    · rw [hne a b h, hne b a (Ne.symm h)]; exact cmpI_cmp.anti _ _
  · by_cases h : a.kind = b.kind
    · by_cases k : a.kind = 3
      · rw [h3 a b h k]; exact L1.rng a b
      · rw [h4 a b h k]; exact L2.rng a b
    · rw [hne a b h]; exact cmpI_cmp.rng _ _
  · have hk : ∀ m n : Nd, cmpTop m n ≤ 0 → m.kind ≤ n.kind := by
      intro m n h
      by_cases e : m.kind = n.kind
      · omega
      · rw [hne m n e] at h
        unfold cmpI at h
        (repeat' split at h) <;> omega
    have k1 := hk _ _ h1
    have k2 := hk _ _ h2
    by_cases e : a.kind = d.kind
    · have e1 : a.kind = b.kind := by omega
      have e2 : b.kind = d.kind := by omega
      by_cases k : a.kind = 3
      · rw [h3 _ _ e1 k] at h1
        rw [h3 _ _ e2 (e1 ▸ k)] at h2
        rw [h3 _ _ e k]
        exact L1.trans a b d h1 h2
      · rw [h4 _ _ e1 k] at h1
        rw [h4 _ _ e2 (e1 ▸ k)] at h2
        rw [h4 _ _ e k]
        exact L2.trans a b d h1 h2
    · rw [hne _ _ e]
      unfold cmpI
      (repeat' split) <;> omega
theorem valid_num {n : Nd} {s : Int} (h : validNd n s = true) (hk : n.kind = 3) : n.num = 0 := by
  unfold validNd at h
  simp [hk] at h
  exact h.1.1.1.1
theorem valid_leaf {n : Nd} {s : Int} (h : validNd n s = true) (hk : n.kind ≠ 3) : n.args = [] := by
  unfold validNd at h
  split at h
  · simp at h; exact h.2
  split at h
  · simp at h; exact h.2
  split at h
  · simp at h; exact h.2
  split at h
  · simp at h; exact h.2
  · cases h
theorem valid_kind {n : Nd} {s : Int} (h : validNd n s = true) : 0 ≤ n.kind ∧ n.kind ≤ 4 := by
  unfold validNd at h
  split at h
  · omega
  split at h
  · omega
  split at h
  · omega
  split at h
  · omega
  split at h
  · omega
  · cases h
theorem cmpTop_zero {m n : Nd} {s t : Int} (hm : validNd m s = true) (hn : validNd n t = true) : cmpTop m n = 0 ↔ topN m = topN n := by
  simp only [topN, Top.mk.injEq]
  constructor
  · intro h
    rw [cmpTop_eq] at h
    have hk : m.kind = n.kind := cmpI_zero.1 (by simp only [orI] at h; split at h <;> omega)
    rw [show cmpI m.kind n.kind = 0 from cmpI_zero.2 hk] at h
    simp only [orI, if_true] at h
    by_cases k : m.kind = 3
    · rw [if_pos k] at h
      have hl : cmpI m.args.length n.args.length = 0 := by split at h <;> omega
      rw [if_pos hl] at h
      have := cmpI_zero.1 hl
      exact ⟨hk, by rw [valid_num hm k, valid_num hn (hk ▸ k)], cmpS_zero.1 h, by omega⟩
    · rw [if_neg k] at h
      have hl : cmpS m.label n.label = 0 := by split at h <;> omega
      rw [if_pos hl] at h
      exact ⟨hk, cmpI_zero.1 h, cmpS_zero.1 hl, by rw [valid_leaf hm k, valid_leaf hn (hk ▸ k)]⟩
  · rintro ⟨h1, h2, h3, h4⟩
    rw [cmpTop_eq, h1, h2, h3, h4]
    simp [orI, cmpI_cmp.self, cmpS_cmp.self]
/-- The order of the rows of nodes' numbers. -/
theorem order_top (G : List Nd) : Order fun x y : Int => cmpTop (nd G x.toNat) (nd G y.toNat) ≤ 0 where
  trans h1 h2 := cmpTop_cmp.trans _ _ _ h1 h2
  total a b := by
    have := cmpTop_cmp.anti (nd G a.toNat) (nd G b.toNat)
    omega
end Go.Proofs.YtnleljpebnnhfaaGreatDoor

set_option linter.unusedSimpArgs false
set_option linter.unusedVariables false
namespace Go.Proofs.YtnleljpebnnhfaaGreatDoor
/-- The atom that stands for a tuple that is cut off. -/
def cutLabel : ByteArray := { data := #[99, 117, 116] }
def cutTop (t : Top) : Top := if t.kind = 3 then ⟨2, 0, cutLabel, 0⟩ else t
/-- The cut of a tree at a depth. -/
def cutD (D : List Nat → Option Top) (d : Nat) (p : List Nat) : Option Top :=
  if p.length < d then D p else if p.length = d then (D p).map cutTop else none
theorem cutTop_idem (t : Top) : cutTop (cutTop t) = cutTop t := by
  unfold cutTop
  by_cases h : t.kind = 3 <;> simp [h]
theorem cutD_lt {D : List Nat → Option Top} {d : Nat} {p : List Nat} (h : p.length < d) : cutD D d p = D p := by simp [cutD, h]
theorem cutD_eq {D : List Nat → Option Top} {d : Nat} {p : List Nat} (h : p.length = d) : cutD D d p = (D p).map cutTop := by simp [cutD, h]
theorem cutD_gt {D : List Nat → Option Top} {d : Nat} {p : List Nat} (h : d < p.length) : cutD D d p = none := by
  have h1 : ¬ p.length < d := by omega
  have h2 : ¬ p.length = d := by omega
  simp [cutD, h1, h2]
theorem cutD_cutD (D : List Nat → Option Top) (m n : Nat) : cutD (cutD D m) n = cutD D (min m n) := by
  funext p
  rcases Nat.lt_trichotomy p.length n with h | h | h
  · rw [cutD_lt h]
    rcases Nat.lt_trichotomy p.length m with k | k | k
    · rw [cutD_lt k, cutD_lt (by omega)]
    · rw [cutD_eq k, cutD_eq (by omega)]
    · rw [cutD_gt k, cutD_gt (by omega)]
  · rw [cutD_eq h]
    rcases Nat.lt_trichotomy p.length m with k | k | k
    · rw [cutD_lt k, cutD_eq (by omega)]
    · rw [cutD_eq k, cutD_eq (by omega)]
      cases D p with
      | none => rfl
      | some t => simp [cutTop_idem]
    · rw [cutD_gt k, cutD_gt (by omega)]; rfl
  · rw [cutD_gt h, cutD_gt (by omega)]
/-- What a node of the cut stands for: a node, and how many levels are left. -/
def cutNorm (G : List Nd) (p : Nat × Nat) : Nat × Nat := if (nd G p.1).kind = 3 then p else (p.1, 0)
/-- The node of the cut, without arguments. -/
def cutNode (G : List Nd) (p : Nat × Nat) : Nd := if (nd G p.1).kind = 3 then (if p.2 = 0 then ⟨2, 0, cutLabel, []⟩ else ⟨3, 0, (nd G p.1).label, []⟩) else nd G p.1
def cutKids (G : List Nd) (p : Nat × Nat) : List (Nat × Nat) := if (nd G p.1).kind = 3 ∧ p.2 ≠ 0 then (kids G p.1).map fun a => cutNorm G (a, p.2 - 1) else []
theorem den_leaf {G : List Nd} (hG : VG G) {i : Nat} (hi : i < G.length) (hk : (nd G i).kind ≠ 3) {p : List Nat} (hp : p ≠ []) : den G i p = none := by
  cases p with
  | nil => exact absurd rfl hp
  | cons k p =>
    have : kids G i = [] := by simp [kids, valid_leaf (hG _ (nd_mem hi)) hk]
    simp [den, this]
/-- A graph that stands for the cut node by node denotes the cut. -/
theorem den_cut {G : List Nd} (hG : VG G) {C : List Nd} {outs : List (Nat × Nat)} (hin : ∀ k (h : k < outs.length), outs[k].1 < G.length ∧ cutNorm G outs[k] = outs[k])
    (hC : ∀ k (h : k < outs.length), (nd C k).kind = (cutNode G outs[k]).kind ∧ (nd C k).num = (cutNode G outs[k]).num ∧ (nd C k).label = (cutNode G outs[k]).label ∧
      All2 (fun m x => ∃ h : m < outs.length, outs[m] = x) (kids C k) (cutKids G outs[k])) :
    ∀ (p : List Nat) (k : Nat) (h : k < outs.length), den C k p = cutD (den G outs[k].1) outs[k].2 p := by
  intro p
  induction p with
  | nil =>
    intro k h
    obtain ⟨h1, h2, h3, h4⟩ := hC k h
    obtain ⟨hi, hn⟩ := hin k h
    have hv := hG _ (nd_mem hi)
    have har : (nd C k).args.length = (cutKids G outs[k]).length := by rw [← h4.length]; simp [kids]
    by_cases hk : (nd G outs[k].1).kind = 3
    · by_cases hz : outs[k].2 = 0
      · simp only [den, cutD, List.length_nil, hz, Nat.lt_irrefl, if_false, if_true, Option.map_some, top, topN, cutTop, hk, h1, h2, h3, har]
        simp [cutNode, cutKids, hk, hz]
      · have hnum := valid_num hv hk
        have hlt : 0 < outs[k].2 := by omega
        simp only [den, cutD, List.length_nil, hlt, if_true, top, topN, h1, h2, h3, har]
        simp [cutNode, cutKids, hk, hz, hnum, kids]
    · have hz : outs[k].2 = 0 := by
        unfold cutNorm at hn
        rw [if_neg hk] at hn
        rw [← hn]
      have hl := valid_leaf hv hk
      simp only [den, cutD, List.length_nil, hz, Nat.lt_irrefl, if_false, if_true, Option.map_some, top, topN, cutTop, hk, h1, h2, h3, har]
      simp [cutNode, cutKids, hk, hz, hl]
  | cons q p ih =>
    intro k h
    obtain ⟨h1, h2, h3, h4⟩ := hC k h
    obtain ⟨hi, hn⟩ := hin k h
    by_cases hcut : (nd G outs[k].1).kind = 3 ∧ outs[k].2 ≠ 0
    · have hz := hcut.2
      have h5 : All2 (fun m a => ∃ h : m < outs.length, outs[m] = cutNorm G (a, outs[k].2 - 1)) (kids C k) (kids G outs[k].1) := by
        unfold cutKids at h4
        rw [if_pos hcut] at h4
        refine All2.of_get (by simpa using h4.length) fun x hx1 hx2 => ?_
        have := h4.get x hx1 (by simpa using hx2)
        simpa using this
      have hl := h5.length
      have e0 : cutD (den G outs[k].1) outs[k].2 (q :: p) = match (kids G outs[k].1)[q]? with | some a => cutD (den G a) (outs[k].2 - 1) p | none => none := by
        rcases Nat.lt_trichotomy (p.length + 1) outs[k].2 with c | c | c
        · rw [cutD_lt (by simpa using c), den_cons]
          cases hx : (kids G outs[k].1)[q]? with
          | none => rfl
          | some a => exact (cutD_lt (by omega)).symm
        · rw [cutD_eq (by simpa using c), den_cons]
          cases hx : (kids G outs[k].1)[q]? with
          | none => rfl
          | some a => exact (cutD_eq (by omega)).symm
        · rw [cutD_gt (by simpa using c)]
          cases hx : (kids G outs[k].1)[q]? with
          | none => rfl
          | some a => exact (cutD_gt (by omega)).symm
      rw [e0, den_cons]
      by_cases hq : q < (kids C k).length
      · have hq' : q < (kids G outs[k].1).length := by omega
        rw [List.getElem?_eq_getElem hq, List.getElem?_eq_getElem hq']
        obtain ⟨hm, hm2⟩ := h5.get q hq hq'
        have hkin := hG.kids hi (List.getElem_mem hq')
        show den C (kids C k)[q] p = cutD (den G (kids G outs[k].1)[q]) (outs[k].2 - 1) p
        rw [ih _ hm, hm2]
        simp only [cutNorm]
        by_cases c3 : (nd G (kids G outs[k].1)[q]).kind = 3
        · rw [if_pos c3]
        · rw [if_neg c3]
          show cutD (den G (kids G outs[k].1)[q]) 0 p = cutD (den G (kids G outs[k].1)[q]) (outs[k].2 - 1) p
          cases p with
          | nil =>
            have ht : cutTop (top G (kids G outs[k].1)[q]) = top G (kids G outs[k].1)[q] := by
              unfold cutTop
              rw [if_neg (by simpa [top, topN] using c3)]
            rw [cutD_eq (d := 0) (p := []) rfl, den_nil, Option.map_some, ht]
            rcases Nat.lt_or_ge 0 (outs[k].2 - 1) with c | c
            · rw [cutD_lt (by simpa using c), den_nil]
            · rw [cutD_eq (by simp; omega), den_nil, Option.map_some, ht]
          | cons x p =>
            have hnone := den_leaf hG hkin c3 (p := x :: p) (by simp)
            rw [cutD_gt (by simp)]
            unfold cutD
            rw [hnone]
            split
            · rfl
            · split <;> rfl
      · rw [List.getElem?_eq_none (by omega), List.getElem?_eq_none (by omega)]
    · have hk0 : cutKids G outs[k] = [] := by unfold cutKids; rw [if_neg hcut]
      have hk1 : kids C k = [] := by
        have := h4.length
        rw [hk0] at this
        exact List.eq_nil_of_length_eq_zero this
      rw [den_cons, hk1]
      simp only [List.getElem?_nil]
      have hz : outs[k].2 = 0 := by
        by_cases hk : (nd G outs[k].1).kind = 3
        · exact Classical.byContradiction fun h => hcut ⟨hk, h⟩
        · unfold cutNorm at hn
          rw [if_neg hk] at hn
          rw [← hn]
      rw [hz, cutD_gt (by simp)]
end Go.Proofs.YtnleljpebnnhfaaGreatDoor

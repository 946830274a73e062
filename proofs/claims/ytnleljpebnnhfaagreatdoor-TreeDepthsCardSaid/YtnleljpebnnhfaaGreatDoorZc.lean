/- Plain laws: the text of a tree, and reading it. -/
import Derived.Test.YtnleljpebnnhfaaGreatDoorZb
import Derived.Lib.ItoaNum
import Derived.Lib.AtoiAll

set_option linter.unusedSimpArgs false
set_option linter.unusedVariables false
namespace Go.Proofs.YtnleljpebnnhfaaGreatDoor
/-- A string of bytes. -/
def bs (l : List UInt8) : ByteArray := ⟨l.toArray⟩
theorem bs_size (l : List UInt8) : (bs l).size = l.length := by simp [bs, ByteArray.size]
theorem bs_append (a b : List UInt8) : bs a ++ bs b = bs (a ++ b) := by
  apply ByteArray.ext
  simp [bs, ByteArray.data_append]
theorem bs_toList (s : ByteArray) : bs s.data.toList = s := by
  apply ByteArray.ext
  simp [bs]
theorem bs_list (l : List UInt8) : (bs l).data.toList = l := by simp [bs]
theorem bs_inj {a b : List UInt8} (h : bs a = bs b) : a = b := by rw [← bs_list a, h, bs_list]
/-- The bytes of a node's label. -/
def lab (n : Nd) : List UInt8 := n.label.data.toList
/-- A tuple that is written as a pair. -/
def isPair (n : Nd) : Bool := decide (lab n = [124]) && decide (n.args.length = 2)
def sepOf (n : Nd) : List UInt8 := if isPair n then [124] else [32]
def headOf (n : Nd) : List UInt8 := if isPair n then [] else lab n
/-- Parts with something between them. -/
def glue (sep : List UInt8) : List (List UInt8) → List UInt8
  | [] => []
  | [a] => a
  | a :: b :: l => a ++ sep ++ glue sep (b :: l)
/-- The text of a node within others, and which of these it names. -/
def txt (C : List Nd) : Nat → List Nat → Nat → List UInt8 × List Nat
  | 0, _, _ => ([], [])
  | f + 1, within, i =>
    if (nd C i).kind = 0 then (95 :: Lib.itoa (nd C i).num, [])
    else if (nd C i).kind = 1 then (Lib.itoa (nd C i).num, [])
    else if (nd C i).kind = 2 then (lab (nd C i), [])
    else if (nd C i).kind = 4 then (60 :: (lab (nd C i) ++ 32 :: (Lib.itoa (nd C i).num ++ [62])), [])
    else if i ∈ within then (64 :: Lib.itoa i, [i])
    else
      let parts := (kids C i).map (txt C f (within ++ [i]))
      let named := parts.flatMap (·.2)
      let body := headOf (nd C i) ++ 40 :: (glue (sepOf (nd C i)) (parts.map (·.1)) ++ [41])
      (if i ∈ named then Lib.itoa i ++ 61 :: body else body, named.filter fun k => decide (k ≠ i))
/-- The text of a least graph. -/
def textOf (C : List Nd) : List UInt8 := (txt C (C.length + 1) [] 0).1
theorem glue_length (sep : List UInt8) (l : List (List UInt8)) : (glue sep l).length = (l.map List.length).sum + sep.length * (l.length - 1) := by
  induction l with
  | nil => simp [glue]
  | cons a l ih =>
    cases l with
    | nil => simp [glue]
    | cons b l =>
      simp only [glue, List.length_append, ih, List.map_cons, List.sum_cons, List.length_cons]
      have : l.length + 1 + 1 - 1 = (l.length + 1 - 1) + 1 := by omega
      rw [this, Nat.mul_succ]
      omega
theorem glue_snoc (sep : List UInt8) (l : List (List UInt8)) (a : List UInt8) : glue sep (l ++ [a]) = if l = [] then a else glue sep l ++ sep ++ a := by
  induction l with
  | nil => simp [glue]
  | cons b l ih =>
    cases l with
    | nil => simp [glue]
    | cons c l =>
      rw [List.cons_append, List.cons_append, glue, ← List.cons_append, ih]
      simp [glue]
theorem decDigits_pos (u : Nat) : 1 ≤ (Lib.decDigits u).length := by
  rw [Lib.decDigits_length]; exact Lib.nDigits_pos u
theorem itoa_pos (n : Int) : 1 ≤ (Lib.itoa n).length := by
  unfold Lib.itoa
  split
  · simp
  · exact decDigits_pos _
theorem txt_named_within (C : List Nd) : ∀ f within i k, k ∈ (txt C f within i).2 → k ∈ within := by
  intro f
  induction f with
  | zero => intro within i k h; simp [txt] at h
  | succ f ih =>
    intro within i k h
    unfold txt at h
    split at h
    · simp at h
    split at h
    · simp at h
    split at h
    · simp at h
    split at h
    · simp at h
    split at h
    · rename_i hm
      obtain rfl : k = i := by simpa using h
      exact hm
    · simp only [List.mem_filter, List.mem_flatMap, List.mem_map, decide_eq_true_eq] at h
      obtain ⟨⟨p, ⟨a, ha, rfl⟩, hk⟩, hne⟩ := h
      have := ih _ _ _ hk
      rcases List.mem_append.1 this with h | h
      · exact h
      · exact absurd (by simpa using h) hne
end Go.Proofs.YtnleljpebnnhfaaGreatDoor

set_option linter.unusedSimpArgs false
set_option linter.unusedVariables false
namespace Go.Proofs.YtnleljpebnnhfaaGreatDoor
/-- One node after the other is made. -/
def foldB (g : Nat → List Nd → Nat × List Nd) : List Nat → List Nd → List Nat × List Nd
  | [], G => ([], G)
  | a :: l, G => ((g a G).1 :: (foldB g l (g a G).2).1, (foldB g l (g a G).2).2)
/-- What reading the text of a node within others makes; op says where the others are. -/
def bld (C : List Nd) : Nat → List Nat → Nat → (Nat → Nat) → List Nd → Nat × List Nd
  | 0, _, _, _, G => (0, G)
  | f + 1, within, i, op, G =>
    if (nd C i).kind ≠ 3 then (G.length, G ++ [nd C i])
    else if i ∈ within then (op i, G)
    else
      let r := foldB (fun a H => bld C f (within ++ [i]) a (fun x => if x = i then G.length else op x) H) (kids C i) (G ++ [{ nd C i with args := [] }])
      (G.length, r.2.set G.length { nd C i with args := r.1.map Int.ofNat })
/-- A node that was made stands for node c. -/
def NodeOK (C G : List Nd) (im : List Nat) (m : Nat) : Prop :=
  ∃ c, im[m]? = some c ∧ c < C.length ∧ topN (nd G m) = top C c ∧ All2 (fun (a : Int) (b : Nat) => ∃ q : Nat, a = (q : Int) ∧ im[q]? = some b) (nd G m).args (kids C c)
structure SimTo (C G : List Nd) (im : List Nat) (G' : List Nd) (im' : List Nat) : Prop where
  more : ∃ l, im' = im ++ l
  len : G'.length = im'.length
  keep : ∀ m, m < G.length → G'[m]? = G[m]?
  node : ∀ m, G.length ≤ m → m < G'.length → NodeOK C G' im' m
theorem getElem?_more {im : List Nat} (l : List Nat) {q b : Nat} (h : im[q]? = some b) : (im ++ l)[q]? = some b := by
  have := (List.getElem?_eq_some_iff.1 h).1
  rw [List.getElem?_append_left this]; exact h
theorem nd_of_getElem? {G H : List Nd} {m : Nat} (h : G[m]? = H[m]?) : nd G m = nd H m := by simp [nd, List.getD_eq_getElem?_getD, h]
theorem NodeOK.more {C G G' : List Nd} {im im' : List Nat} {m : Nat} (h : NodeOK C G im m) (hm : ∃ l, im' = im ++ l) (hk : G'[m]? = G[m]?) : NodeOK C G' im' m := by
  obtain ⟨c, h1, h2, h3, h4⟩ := h
  obtain ⟨l, rfl⟩ := hm
  refine ⟨c, getElem?_more l h1, h2, ?_, ?_⟩
  · rw [nd_of_getElem? hk]; exact h3
  · rw [nd_of_getElem? hk]
    exact h4.imp fun a b _ _ ⟨q, e, hq⟩ => ⟨q, e, getElem?_more l hq⟩
theorem SimTo.refl {C G : List Nd} {im : List Nat} (h : G.length = im.length) : SimTo C G im G im := ⟨⟨[], by simp⟩, h, fun _ _ => rfl, fun m h1 h2 => by omega⟩
theorem SimTo.len_le {C G G' : List Nd} {im im' : List Nat} (h : SimTo C G im G' im') (hl : G.length = im.length) : G.length ≤ G'.length := by
  obtain ⟨l, e⟩ := h.more
  rw [h.len, e, hl]; simp
theorem SimTo.trans {C G G' G'' : List Nd} {im im' im'' : List Nat} (h : SimTo C G im G' im') (k : SimTo C G' im' G'' im'') (hl : G.length = im.length) : SimTo C G im G'' im'' := by
  obtain ⟨l, e⟩ := h.more
  obtain ⟨l', e'⟩ := k.more
  have hle := h.len_le hl
  refine ⟨⟨l ++ l', by rw [e', e, List.append_assoc]⟩, k.len, fun m hm => (k.keep m (by omega)).trans (h.keep m hm), fun m h1 h2 => ?_⟩
  rcases Nat.lt_or_ge m G'.length with hlt | hge
  · exact (h.node m h1 hlt).more k.more (k.keep m hlt)
  · exact k.node m hge h2
/-- Where the open nodes are. -/
def OpOK (within : List Nat) (op : Nat → Nat) (im : List Nat) : Prop := ∀ x ∈ within, im[op x]? = some x
theorem foldB_sim {C : List Nd} {g : Nat → List Nd → Nat × List Nd} {within : List Nat} {op : Nat → Nat}
    (hg : ∀ a G im, a < C.length → G.length = im.length → OpOK within op im → ∃ im', SimTo C G im (g a G).2 im' ∧ im'[(g a G).1]? = some a) :
    ∀ (l : List Nat) (G : List Nd) (im : List Nat), (∀ a ∈ l, a < C.length) → G.length = im.length → OpOK within op im →
      ∃ im', SimTo C G im (foldB g l G).2 im' ∧ All2 (fun q b => im'[q]? = some b) (foldB g l G).1 l := by
  intro l
  induction l with
  | nil => intro G im _ hl _; exact ⟨im, SimTo.refl hl, .nil⟩
  | cons a l ih =>
    intro G im ha hl ho
    obtain ⟨im1, s1, e1⟩ := hg a G im (ha a (by simp)) hl ho
    obtain ⟨m1, hm1⟩ := s1.more
    have ho1 : OpOK within op im1 := fun x hx => by rw [hm1]; exact getElem?_more _ (ho x hx)
    obtain ⟨im2, s2, e2⟩ := ih (g a G).2 im1 (fun b hb => ha b (by simp [hb])) s1.len ho1
    obtain ⟨m2, hm2⟩ := s2.more
    refine ⟨im2, s1.trans s2 hl, .cons ?_ e2⟩
    rw [hm2]; exact getElem?_more _ e1
theorem bld_sim {C : List Nd} (hC : VG C) : ∀ (f : Nat) (within : List Nat) (i : Nat) (op : Nat → Nat) (G : List Nd) (im : List Nat), f + within.length = C.length + 1 → within.Nodup → (∀ x ∈ within, x < C.length) → i < C.length →
    G.length = im.length → OpOK within op im → ∃ im', SimTo C G im (bld C f within i op G).2 im' ∧ im'[(bld C f within i op G).1]? = some i := by
  intro f
  induction f with
  | zero =>
    intro within i op G im hf hn hw hi hl ho
    have := hn.length_le_of_subset (l₂ := List.range C.length) fun x hx => List.mem_range.2 (hw x hx)
    simp at this
    omega
  | succ f ih =>
    intro within i op G im hf hn hw hi hl ho
    have hv := hC _ (nd_mem hi)
    unfold bld
    by_cases hk : (nd C i).kind = 3
    · rw [if_neg (by simp [hk])]
      by_cases hm : i ∈ within
      · rw [if_pos hm]
        exact ⟨im, SimTo.refl hl, ho i hm⟩
      · rw [if_neg hm]
        have hn' : (within ++ [i]).Nodup := by
          rw [List.nodup_append]
          exact ⟨hn, by simp, fun a ha b hb e => hm (by rw [← (by simpa using hb : b = i), ← e]; exact ha)⟩
        have hw' : ∀ x ∈ within ++ [i], x < C.length := by
          intro x hx
          rcases List.mem_append.1 hx with hx | hx
          · exact hw x hx
          · have : x = i := by simpa using hx
            omega
        have ho' : OpOK (within ++ [i]) (fun x => if x = i then G.length else op x) (im ++ [i]) := by
          intro x hx
          by_cases e : x = i
          · subst e
            simp [hl]
          · simp only [if_neg e]
            rcases List.mem_append.1 hx with hx | hx
            · exact getElem?_more _ (ho x hx)
            · exact absurd (by simpa using hx) e
        obtain ⟨im2, s, e⟩ := foldB_sim (C := C) (within := within ++ [i]) (op := fun x => if x = i then G.length else op x) (g := fun a H => bld C f (within ++ [i]) a (fun x => if x = i then G.length else op x) H)
          (fun a H jm ha hlh hoh => ih (within ++ [i]) a _ H jm (by simp; omega) hn' hw' ha hlh hoh) (kids C i) (G ++ [{ nd C i with args := [] }]) (im ++ [i]) (fun a ha => hC.kids hi ha) (by simp [hl]) ho'
        have hi2 : im2[G.length]? = some i := by
          obtain ⟨l, hl2⟩ := s.more
          rw [hl2]; exact getElem?_more _ (by simp [hl])
        have hle := s.len_le (by simp [hl])
        simp only [List.length_append, List.length_cons, List.length_nil] at hle
        generalize hr : foldB (fun a H => bld C f (within ++ [i]) a (fun x => if x = i then G.length else op x) H) (kids C i) (G ++ [{ nd C i with args := [] }]) = r at s e hle ⊢
        refine ⟨im2, ⟨?_, by simpa using s.len, fun m hm' => ?_, fun m h1 h2 => ?_⟩, hi2⟩
        · obtain ⟨l, hl2⟩ := s.more
          exact ⟨[i] ++ l, by rw [hl2, List.append_assoc]⟩
        · show (r.2.set G.length _)[m]? = _
          rw [List.getElem?_set_ne (by omega), s.keep m (by simp; omega), List.getElem?_append_left hm']
        · simp only [List.length_set] at h2
          show NodeOK C (r.2.set G.length _) im2 m
          by_cases hmG : m = G.length
          · subst hmG
            have hnd : nd (r.2.set G.length { nd C i with args := r.1.map Int.ofNat }) G.length = { nd C i with args := r.1.map Int.ofNat } := by
              simp [nd, List.getD_eq_getElem?_getD, List.getElem?_set, h2]
            refine ⟨i, hi2, hi, ?_, ?_⟩
            · rw [hnd]
              have : r.1.length = (nd C i).args.length := by rw [e.length]; simp [kids]
              simp [topN, top, this]
            · rw [hnd]
              refine All2.of_get (by simpa using e.length) fun q h1 h2 => ?_
              have := e.get q (by simpa using h1) h2
              exact ⟨r.1[q]'(by simpa using h1), by simp, this⟩
          · exact (s.node m (by simp; omega) h2).more ⟨[], by simp⟩ (by rw [List.getElem?_set_ne (by omega)])
    · rw [if_pos hk]
      refine ⟨im ++ [i], ⟨⟨[i], rfl⟩, by simp [hl], fun m hm => by rw [List.getElem?_append_left hm], fun m h1 h2 => ?_⟩, by simp [hl]⟩
      simp at h2
      obtain rfl : m = G.length := by omega
      have hnd : nd (G ++ [nd C i]) G.length = nd C i := by simp [nd, List.getD_eq_getElem?_getD]
      refine ⟨i, by simp [hl], hi, by rw [hnd]; rfl, ?_⟩
      rw [hnd, valid_leaf hv hk]
      have : kids C i = [] := by simp [kids, valid_leaf hv hk]
      rw [this]
      exact .nil
/-- What was made is valid and stands for the graph. -/
theorem bld_canon {C : List Nd} (hC : VG C) (hpos : 0 < C.length) (op : Nat → Nat) :
    VG (bld C (C.length + 1) [] 0 op []).2 ∧ (bld C (C.length + 1) [] 0 op []).1 < (bld C (C.length + 1) [] 0 op []).2.length ∧ den (bld C (C.length + 1) [] 0 op []).2 (bld C (C.length + 1) [] 0 op []).1 = den C 0 := by
  obtain ⟨im, s, e⟩ := bld_sim hC (C.length + 1) [] 0 op [] [] (by simp) (by simp) (by simp) hpos rfl (fun x hx => by cases hx)
  generalize bld C (C.length + 1) [] 0 op [] = r at s e ⊢
  have hlt : r.1 < r.2.length := by rw [s.len]; exact (List.getElem?_eq_some_iff.1 e).1
  refine ⟨?_, hlt, ?_⟩
  · intro n hn
    obtain ⟨m, hm, rfl⟩ := List.mem_iff_getElem.1 hn
    obtain ⟨c, h1, h2, h3, h4⟩ := s.node m (by simp) hm
    rw [nd_eq hm] at h3 h4
    refine valid_of (hC _ (nd_mem h2)) h3 fun a ha => ?_
    obtain ⟨b, _, q, rfl, hq⟩ := h4.mem_left ha
    have := (List.getElem?_eq_some_iff.1 hq).1
    have := s.len
    omega
  · refine den_coind (fun m c => m < r.2.length ∧ im[m]? = some c) ?_ ?_ _ _ ⟨hlt, e⟩
    · rintro m c ⟨hm, hc⟩
      obtain ⟨c', h1, h2, h3, h4⟩ := s.node m (by simp) hm
      obtain rfl : c = c' := by rw [hc] at h1; exact Option.some.inj h1
      exact h3
    · rintro m c ⟨hm, hc⟩
      obtain ⟨c', h1, h2, h3, h4⟩ := s.node m (by simp) hm
      obtain rfl : c = c' := by rw [hc] at h1; exact Option.some.inj h1
      refine All2.of_get (by rw [← h4.length]; simp [kids]) fun q hq1 hq2 => ?_
      have hq1' : q < (nd r.2 m).args.length := by simpa [kids] using hq1
      obtain ⟨x, ex, hx⟩ := h4.get q hq1' hq2
      have : (kids r.2 m)[q] = x := by simp [kids, ex]
      rw [this]
      exact ⟨by rw [s.len]; exact (List.getElem?_eq_some_iff.1 hx).1, hx⟩
end Go.Proofs.YtnleljpebnnhfaaGreatDoor

set_option linter.unusedSimpArgs false
set_option linter.unusedVariables false
namespace Go.Proofs.YtnleljpebnnhfaaGreatDoor
def letB (c : UInt8) : Bool := isLetterN c.toNat
def digB (c : UInt8) : Bool := decide (48 ≤ c.toNat) && decide (c.toNat ≤ 57)
theorem digB_letB {c : UInt8} (h : digB c = true) : letB c = true := by
  simp only [digB, Bool.and_eq_true, decide_eq_true_eq] at h
  simp only [letB, isLetterN, Bool.or_eq_true, Bool.and_eq_true, decide_eq_true_eq]
  omega
/-- The next byte; 0: there is none. -/
def hd (s : List UInt8) : Nat := (s.head?.map UInt8.toNat).getD 0
theorem hd_cons (c : UInt8) (s : List UInt8) : hd (c :: s) = c.toNat := rfl
theorem hd_nil : hd [] = 0 := rfl
/-- What begins a word without being a letter. -/
def markB (c : UInt8) : Bool := decide (c.toNat = 124) || decide (c.toNat = 35) || decide (c.toNat = 45)
def wordT : List UInt8 → List UInt8 × List UInt8
  | [] => ([], [])
  | c :: r => if markB c then (c :: r.takeWhile letB, r.dropWhile letB) else ((c :: r).takeWhile letB, (c :: r).dropWhile letB)
theorem wordT_join (s : List UInt8) : (wordT s).1 ++ (wordT s).2 = s := by
  cases s with
  | nil => rfl
  | cons c r =>
    by_cases h : markB c = true
    · simp [wordT, h, List.takeWhile_append_dropWhile]
    · simp only [wordT, if_neg h]
      exact List.takeWhile_append_dropWhile
/-- The number of a word. -/
def numOf (w : List UInt8) : Option Int := match Lib.atoiAll w with | .ok n => some n | _ => none
def numT (s : List UInt8) : Option (Int × List UInt8) := (numOf (wordT s).1).map fun n => (n, (wordT s).2)
abbrev Rdr := List UInt8 → List Nd → Option (Int × List UInt8 × List Nd)
/-- Arguments up to a parenthesis. -/
def argsT (node : Rdr) (sep : Nat) : Nat → List UInt8 → List Nd → List Int → Option (List Int × List UInt8 × List Nd)
  | 0, _, _, _ => none
  | g + 1, s, G, acc =>
    match node s G with
    | none => none
    | some (k, s1, G1) =>
      if hd s1 = sep then argsT node sep g s1.tail G1 (acc ++ [k])
      else if hd s1 = 41 then some (acc ++ [k], s1.tail, G1) else none
/-- A tuple, behind its label. -/
def tupT (node : (Int → Option Int) → Rdr) (label : List UInt8) (no : Int) (s : List UInt8) (G : List Nd) (op : Int → Option Int) : Option (Int × List UInt8 × List Nd) :=
  if hd s = 40 then
    match argsT (node fun x => if 0 ≤ no ∧ x = no then some (G.length : Int) else op x) (if label = [] then 124 else 32) (s.length + 1) s.tail (G ++ [⟨3, 0, bs (if label = [] then [124] else label), []⟩]) [] with
    | none => none
    | some (args, s1, G1) => some ((G.length : Int), s1, G1.set G.length ⟨3, 0, bs (if label = [] then [124] else label), args⟩)
  else none
def rdT : Nat → (Int → Option Int) → Rdr
  | 0, _, _, _ => none
  | f + 1, op, s, G =>
    if hd s = 95 then
      match numOf ((wordT s).1.drop 1) with
      | none => none
      | some n => some ((G.length : Int), (wordT s).2, G ++ [⟨0, n, bs [], []⟩])
    else if hd s = 60 then
      if hd (wordT s.tail).2 = 32 then
        match numT (wordT s.tail).2.tail with
        | none => none
        | some (n, s1) => if hd s1 = 62 then some ((G.length : Int), s1.tail, G ++ [⟨4, n, bs (wordT s.tail).1, []⟩]) else none
      else none
    else if hd s = 64 then
      match numT s.tail with
      | none => none
      | some (n, s1) => (op n).map fun k => (k, s1, G)
    else if hd s = 40 then tupT (rdT f) [] (-1) s G op
    else if hd s = 45 ∨ (48 ≤ hd s ∧ hd s ≤ 57) then
      match numT s with
      | none => none
      | some (n, s1) => if hd s1 ≠ 61 ∨ n < 0 then some ((G.length : Int), s1, G ++ [⟨1, n, bs [], []⟩]) else tupT (rdT f) (wordT s1.tail).1 n (wordT s1.tail).2 G op
    else if hd (wordT s).2 = 40 ∧ (wordT s).1 ≠ [] then tupT (rdT f) (wordT s).1 (-1) (wordT s).2 G op
    else some ((G.length : Int), (wordT s).2, G ++ [⟨2, 0, bs (wordT s).1, []⟩])
/-- How many nodes are made: no more than bytes are read, and one. -/
def RdLe (node : Rdr) : Prop := ∀ s G k s1 G1, node s G = some (k, s1, G1) → s1.length ≤ s.length ∧ G1.length + s1.length ≤ G.length + s.length + 1
theorem tail_length (s : List UInt8) (h : hd s ≠ 0) : s.tail.length + 1 = s.length := by
  cases s with
  | nil => exact absurd rfl h
  | cons c s => simp
theorem argsT_le {node : Rdr} (h : RdLe node) {sep : Nat} (hsep : sep ≠ 0) : ∀ g s G acc args s1 G1, argsT node sep g s G acc = some (args, s1, G1) → s1.length + 1 ≤ s.length ∧ G1.length + s1.length ≤ G.length + s.length ∧ args.length + s1.length ≤ acc.length + s.length := by
  intro g
  induction g with
  | zero => intro s G acc args s1 G1 e; simp [argsT] at e
  | succ g ih =>
    intro s G acc args s1 G1 e
    unfold argsT at e
    split at e
    · cases e
    · rename_i k s2 G2 hn
      obtain ⟨h1, h2⟩ := h _ _ _ _ _ hn
      split at e
      · rename_i hs
        have := ih _ _ _ _ _ _ e
        have hl := tail_length s2 (by omega)
        simp at this
        omega
      · split at e
        · rename_i hs
          have hl := tail_length s2 (by omega)
          simp only [Option.some.injEq, Prod.mk.injEq] at e
          obtain ⟨rfl, rfl, rfl⟩ := e
          simp
          omega
        · cases e
theorem tupT_le {node : (Int → Option Int) → Rdr} (h : ∀ op, RdLe (node op)) {label : List UInt8} {no : Int} {op : Int → Option Int} : ∀ s G k s1 G1, tupT node label no s G op = some (k, s1, G1) → s1.length + 2 ≤ s.length ∧ G1.length + s1.length ≤ G.length + s.length := by
  intro s G k s1 G1 e
  unfold tupT at e
  split at e
  · rename_i hs
    split at e
    · cases e
    · rename_i args s2 G2 ha
      have hl := tail_length s (by omega)
      obtain ⟨h1, h2, h3⟩ := argsT_le (h _) (by split <;> omega) _ _ _ _ _ _ _ ha
      simp only [Option.some.injEq, Prod.mk.injEq] at e
      obtain ⟨_, rfl, rfl⟩ := e
      simp at h2 ⊢
      omega
  · cases e
theorem wordT_le (s : List UInt8) : (wordT s).2.length + (wordT s).1.length = s.length := by
  have := congrArg List.length (wordT_join s)
  simp at this
  omega
theorem numT_le {s : List UInt8} {n : Int} {s1 : List UInt8} (h : numT s = some (n, s1)) : s1.length ≤ s.length := by
  unfold numT at h
  have := wordT_le s
  cases hn : numOf (wordT s).1 with
  | none => rw [hn] at h; cases h
  | some m =>
    rw [hn] at h
    simp at h
    rw [← h.2]; omega
theorem rdT_le : ∀ f op, RdLe (rdT f op) := by
  intro f
  induction f with
  | zero => intro op s G k s1 G1 e; simp [rdT] at e
  | succ f ih =>
    intro op s G k s1 G1 e
    have htl : s.tail.length ≤ s.length := by simp
    unfold rdT at e
    have hw := wordT_le s
    have hwt := wordT_le s.tail
    split at e
    · split at e
      · cases e
      · simp only [Option.some.injEq, Prod.mk.injEq] at e
        obtain ⟨rfl, rfl, rfl⟩ := e
        simp; omega
    split at e
    · split at e
      · split at e
        · cases e
        · rename_i hn
          split at e
          · have := numT_le hn
            simp only [Option.some.injEq, Prod.mk.injEq] at e
            obtain ⟨rfl, rfl, rfl⟩ := e
            simp at this ⊢; omega
          · cases e
      · cases e
    split at e
    · split at e
      · cases e
      · rename_i n s2 hn
        have := numT_le hn
        cases ho : op n with
        | none => rw [ho] at e; cases e
        | some q =>
          rw [ho] at e
          simp at e
          obtain ⟨rfl, rfl, rfl⟩ := e
          omega
    split at e
    · have := tupT_le ih _ _ _ _ _ e
      omega
    split at e
    · split at e
      · cases e
      · rename_i n s2 hn
        have h2 := numT_le hn
        split at e
        · simp only [Option.some.injEq, Prod.mk.injEq] at e
          obtain ⟨rfl, rfl, rfl⟩ := e
          simp; omega
        · have h3 := tupT_le ih _ _ _ _ _ e
          have h4 := wordT_le s2.tail
          simp at h4
          omega
    split at e
    · have := tupT_le ih _ _ _ _ _ e
      omega
    · simp only [Option.some.injEq, Prod.mk.injEq] at e
      obtain ⟨rfl, rfl, rfl⟩ := e
      simp; omega
end Go.Proofs.YtnleljpebnnhfaaGreatDoor

set_option linter.unusedSimpArgs false
set_option linter.unusedVariables false
namespace Go.Proofs.YtnleljpebnnhfaaGreatDoor
/-- What may stand behind a text. -/
def Dl (rest : List UInt8) : Prop := ∀ c r, rest = c :: r → c.toNat = 32 ∨ c.toNat = 124 ∨ c.toNat = 41
def NL (rest : List UInt8) : Prop := ∀ c r, rest = c :: r → letB c = false
theorem letB_no {c : UInt8} (h : c.toNat = 32 ∨ c.toNat = 124 ∨ c.toNat = 41 ∨ c.toNat = 40 ∨ c.toNat = 61 ∨ c.toNat = 62 ∨ c.toNat = 35 ∨ c.toNat = 45) : letB c = false := by
  cases hl : letB c with
  | false => rfl
  | true =>
    simp only [letB, isLetterN, Bool.or_eq_true, Bool.and_eq_true, decide_eq_true_eq, beq_iff_eq] at hl
    omega
theorem Dl.nl {rest : List UInt8} (h : Dl rest) : NL rest := fun c r e => letB_no (by have := h c r e; omega)
theorem nl_cons {c : UInt8} {r : List UInt8} (h : c.toNat = 32 ∨ c.toNat = 124 ∨ c.toNat = 41 ∨ c.toNat = 40 ∨ c.toNat = 61 ∨ c.toNat = 62 ∨ c.toNat = 35 ∨ c.toNat = 45) : NL (c :: r) := by
  intro c' r' e
  obtain ⟨rfl, _⟩ := List.cons.inj e
  exact letB_no h
theorem dl_hd {rest : List UInt8} (h : Dl rest) : hd rest = 0 ∨ hd rest = 32 ∨ hd rest = 124 ∨ hd rest = 41 := by
  cases rest with
  | nil => exact .inl rfl
  | cons c r => exact .inr (h c r rfl)
theorem span_all {a rest : List UInt8} (ha : ∀ c ∈ a, letB c = true) (hr : NL rest) : (a ++ rest).takeWhile letB = a ∧ (a ++ rest).dropWhile letB = rest := by
  induction a with
  | nil =>
    cases rest with
    | nil => simp
    | cons c r => simp [List.takeWhile_cons, List.dropWhile_cons, hr c r rfl]
  | cons c a ih =>
    have := ih fun x hx => ha x (by simp [hx])
    simp [List.takeWhile_cons, List.dropWhile_cons, ha c (by simp), this.1, this.2]
theorem markB_no {c : UInt8} (h : letB c = true) : markB c = false := by
  cases hl : markB c with
  | false => rfl
  | true =>
    simp only [markB, Bool.or_eq_true, decide_eq_true_eq] at hl
    rw [letB_no (by omega)] at h; cases h
theorem wordT_cons (c : UInt8) (r : List UInt8) : wordT (c :: r) = if markB c = true then (c :: r.takeWhile letB, r.dropWhile letB) else ((c :: r).takeWhile letB, (c :: r).dropWhile letB) := rfl
theorem wordT_plain {a rest : List UInt8} (hne : a ≠ []) (ha : ∀ c ∈ a, letB c = true) (hr : NL rest) : wordT (a ++ rest) = (a, rest) := by
  cases a with
  | nil => exact absurd rfl hne
  | cons c a =>
    have := span_all ha hr
    rw [List.cons_append] at this ⊢
    rw [wordT_cons, if_neg (by simp [markB_no (ha c (by simp))]), this.1, this.2]
theorem wordT_mark {c : UInt8} {a rest : List UInt8} (hc : markB c = true) (ha : ∀ c ∈ a, letB c = true) (hr : NL rest) : wordT (c :: (a ++ rest)) = (c :: a, rest) := by
  have := span_all ha hr
  rw [wordT_cons, if_pos hc, this.1, this.2]
theorem wordT_none {rest : List UInt8} (h : hd rest = 40) : wordT rest = ([], rest) := by
  cases rest with
  | nil => rfl
  | cons c r =>
    have h' : c.toNat = 40 := h
    have h1 : letB c = false := letB_no (by omega)
    have h2 : markB c = false := by simp [markB, h']
    rw [wordT_cons, if_neg (by simp [h2])]
    simp [List.takeWhile_cons, List.dropWhile_cons, h1]
theorem ofNat_dig (k : Nat) (h : k < 10) : digB (UInt8.ofNat (48 + k)) = true ∧ (UInt8.ofNat (48 + k)).toNat = 48 + k := by
  have e : (UInt8.ofNat (48 + k)).toNat = 48 + k := by simp [UInt8.toNat_ofNat']; omega
  refine ⟨?_, e⟩
  simp [digB, e]; omega
theorem dec_dig (u : Nat) : ∀ c ∈ Lib.decDigits u, digB c = true := by
  induction u using Nat.strongRecOn with
  | _ u ih =>
    intro c hc
    rw [Lib.decDigits] at hc
    split at hc
    · rename_i h
      have : c = UInt8.ofNat (48 + u) := by simpa using hc
      rw [this]; exact (ofNat_dig u h).1
    · rename_i h
      rcases List.mem_append.1 hc with hc | hc
      · exact ih (u / 10) (by omega) c hc
      · have : c = UInt8.ofNat (48 + u % 10) := by simpa using hc
        rw [this]; exact (ofNat_dig _ (by omega)).1
theorem parseUint10_append : ∀ (a b : List UInt8) (acc : Nat), Lib.parseUint10 acc (a ++ b) = match Lib.parseUint10 acc a with | .ok x => Lib.parseUint10 x b | e => e
  | [], b, acc => by simp [Lib.parseUint10]
  | c :: a, b, acc => by
    simp only [List.cons_append, Lib.parseUint10]
    split
    · split
      · rfl
      · split
        · rfl
        · exact parseUint10_append a b _
    · rfl
theorem parse_dec (u : Nat) (h : u < 18446744073709551616) : Lib.parseUint10 0 (Lib.decDigits u) = .ok u := by
  induction u using Nat.strongRecOn with
  | _ u ih =>
    rw [Lib.decDigits]
    split
    · rename_i hl
      have := ofNat_dig u hl
      have h2 := this.1
      simp only [digB, Bool.and_eq_true, decide_eq_true_eq] at h2
      simp only [Lib.parseUint10]
      rw [if_pos h2, if_neg (by omega), if_neg (by omega), this.2]
      congr 1
      omega
    · rename_i hl
      rw [parseUint10_append, ih (u / 10) (by omega) (by omega)]
      have := ofNat_dig (u % 10) (by omega)
      have h2 := this.1
      simp only [digB, Bool.and_eq_true, decide_eq_true_eq] at h2
      simp only [Lib.parseUint10]
      rw [if_pos h2, if_neg (by omega), if_neg (by omega), this.2]
      congr 1
      omega
theorem dec_ne (u : Nat) : Lib.decDigits u ≠ [] := by
  intro e
  have := decDigits_pos u
  rw [e] at this; simp at this
theorem numOf_dec (u : Nat) (h : u < 9223372036854775808) : numOf (Lib.decDigits u) = some (u : Int) := by
  have hp := parse_dec u (by omega)
  have hd := dec_dig u
  have hne := dec_ne u
  generalize Lib.decDigits u = l at hp hd hne
  cases l with
  | nil => exact absurd rfl hne
  | cons c r =>
    have hc := hd c (by simp)
    simp only [digB, Bool.and_eq_true, decide_eq_true_eq] at hc
    have h1 : ¬ (c.toNat = 43 ∨ c.toNat = 45) := by omega
    have h2 : ¬ c.toNat = 45 := by omega
    have h3 : ¬ 9223372036854775808 ≤ u := by omega
    have h4 : ¬ c.toNat = 43 := by omega
    simp [numOf, Lib.atoiAll, Lib.parseMag, h1, h2, hp, h3, h4]
theorem numOf_itoa (n : Int) (h1 : -9223372036854775808 ≤ n) (h2 : n ≤ 9223372036854775807) : numOf (Lib.itoa n) = some n := by
  unfold Lib.itoa
  split
  · rename_i hn
    have hp := parse_dec n.natAbs (by omega)
    have h3 : ¬ 9223372036854775808 < n.natAbs := by omega
    have e : -(n.natAbs : Int) = n := by omega
    simp [numOf, Lib.atoiAll, Lib.parseMag, dec_ne, hp, h3, e]
  · rename_i hn
    rw [numOf_dec _ (by omega)]
    congr 1
    omega
theorem itoa_nat (n : Int) (h : 0 ≤ n) : Lib.itoa n = Lib.decDigits n.toNat := by
  unfold Lib.itoa
  rw [if_neg (by omega)]
theorem dec_let (u : Nat) : ∀ c ∈ Lib.decDigits u, letB c = true := fun c hc => digB_letB (dec_dig u c hc)
theorem wordT_itoa (n : Int) {rest : List UInt8} (hr : NL rest) : wordT (Lib.itoa n ++ rest) = (Lib.itoa n, rest) := by
  unfold Lib.itoa
  split
  · exact wordT_mark (c := 45) (by decide) (dec_let _) hr
  · exact wordT_plain (dec_ne _) (dec_let _) hr
theorem numT_itoa (n : Int) (h1 : -9223372036854775808 ≤ n) (h2 : n ≤ 9223372036854775807) {rest : List UInt8} (hr : NL rest) : numT (Lib.itoa n ++ rest) = some (n, rest) := by
  unfold numT
  rw [wordT_itoa n hr, numOf_itoa n h1 h2]
  rfl
theorem hd_dec (u : Nat) (rest : List UInt8) : 48 ≤ hd (Lib.decDigits u ++ rest) ∧ hd (Lib.decDigits u ++ rest) ≤ 57 := by
  have h := dec_dig u
  have hne := dec_ne u
  generalize Lib.decDigits u = l at h hne
  cases l with
  | nil => exact absurd rfl hne
  | cons c r =>
    have hc := h c (by simp)
    simp only [digB, Bool.and_eq_true, decide_eq_true_eq] at hc
    exact hc
theorem hd_itoa (n : Int) (rest : List UInt8) : hd (Lib.itoa n ++ rest) = 45 ∨ (48 ≤ hd (Lib.itoa n ++ rest) ∧ hd (Lib.itoa n ++ rest) ≤ 57) := by
  unfold Lib.itoa
  split
  · exact .inl rfl
  · exact .inr (hd_dec _ _)
theorem hd_append {l : List UInt8} (h : 0 < l.length) (rest : List UInt8) : hd (l ++ rest) = (l[0]).toNat := by
  cases l with
  | nil => simp at h
  | cons c r => rfl
/-- An atom is read as a word. -/
theorem atom_word {s : ByteArray} (h : atomB s = true) {rest : List UInt8} (hr : NL rest) : wordT (s.data.toList ++ rest) = (s.data.toList, rest) ∧ s.data.toList ≠ [] ∧ (hd (s.data.toList ++ rest) = 124 ∨ hd (s.data.toList ++ rest) = 35 ∨ (97 ≤ hd (s.data.toList ++ rest) ∧ hd (s.data.toList ++ rest) ≤ 122)) := by
  simp only [atomB, Bool.or_eq_true] at h
  rcases h with (h | h) | h
  · have e : s.data.toList = [124] := by rw [← Go.Lib.toList_data]; exact (by simpa only [barB, beq_iff_eq] using h)
    rw [e]
    exact ⟨wordT_mark (c := 124) (a := []) (by decide) (by simp) hr, by simp, .inl rfl⟩
  · have e : s.data.toList = [35] := by rw [← Go.Lib.toList_data]; exact (by simpa only [hashB, beq_iff_eq] using h)
    rw [e]
    exact ⟨wordT_mark (c := 35) (a := []) (by decide) (by simp) hr, by simp, .inr (.inl rfl)⟩
  · obtain ⟨h1, h2, h3, h4, h5⟩ := (wordB_iff s 97 122).1 h
    have hall := (allLetters_iff s).1 h5
    have hlen : s.data.toList.length = s.size := by rw [Array.length_toList]; rfl
    have hget : ∀ j (hj : j < s.data.toList.length), (s.data.toList[j]).toNat = bt s j := by
      intro j hj
      rw [← bt_eq s j (by omega)]
      rfl
    have hl : ∀ c ∈ s.data.toList, letB c = true := by
      intro c hc
      obtain ⟨j, hj, rfl⟩ := List.mem_iff_getElem.1 hc
      unfold letB
      rw [hget j hj]
      exact hall j (by omega)
    have hne : s.data.toList ≠ [] := by
      intro e
      rw [e] at hlen; simp at hlen; omega
    refine ⟨wordT_plain hne hl hr, hne, .inr (.inr ?_)⟩
    rw [hd_append (by omega) rest, hget 0 (by omega)]
    exact ⟨h3, h4⟩

section
variable {f : Nat} {op : Int → Option Int} {s s' s1 s2 w l : List UInt8} {G G1 : List Nd} {n k : Int}
theorem rdT_free (h : hd s = 95) (hw : wordT s = (w, s1)) (hn : numOf (w.drop 1) = some n) : rdT (f + 1) op s G = some ((G.length : Int), s1, G ++ [⟨0, n, bs [], []⟩]) := by
  unfold rdT
  rw [if_pos h, hw]
  show (match numOf (w.drop 1) with | none => none | some n => _) = _
  rw [hn]
theorem rdT_name (h : hd s = 60) (ht : s.tail = s') (hw : wordT s' = (w, s1)) (h1 : hd s1 = 32) (hn : numT s1.tail = some (n, s2)) (h2 : hd s2 = 62) : rdT (f + 1) op s G = some ((G.length : Int), s2.tail, G ++ [⟨4, n, bs w, []⟩]) := by
  subst ht
  unfold rdT
  rw [if_neg (by omega), if_pos h, hw]
  simp [h1, hn, h2]
theorem rdT_ref (h : hd s = 64) (ht : s.tail = s') (hn : numT s' = some (n, s1)) (ho : op n = some k) : rdT (f + 1) op s G = some (k, s1, G) := by
  subst ht
  unfold rdT
  rw [if_neg (by omega), if_neg (by omega), if_pos h, hn]
  simp [ho]
theorem rdT_pair (h : hd s = 40) : rdT (f + 1) op s G = tupT (rdT f) [] (-1) s G op := by
  rw [rdT.eq_def]
  simp only
  rw [if_neg (by omega), if_neg (by omega), if_neg (by omega), if_pos h]
theorem rdT_int (h : hd s = 45 ∨ 48 ≤ hd s ∧ hd s ≤ 57) (hn : numT s = some (n, s1)) (h1 : hd s1 ≠ 61) : rdT (f + 1) op s G = some ((G.length : Int), s1, G ++ [⟨1, n, bs [], []⟩]) := by
  unfold rdT
  rw [if_neg (by omega), if_neg (by omega), if_neg (by omega), if_neg (by omega), if_pos h, hn]
  simp [h1]
theorem rdT_marked (h : 48 ≤ hd s ∧ hd s ≤ 57) (hn : numT s = some (n, s1)) (h1 : hd s1 = 61) (h0 : 0 ≤ n) (hw : wordT s1.tail = (l, s2)) : rdT (f + 1) op s G = tupT (rdT f) l n s2 G op := by
  rw [rdT.eq_def]
  simp only
  have h2 : ¬ n < 0 := by omega
  rw [if_neg (by omega), if_neg (by omega), if_neg (by omega), if_neg (by omega), if_pos (by omega), hn]
  simp [h1, h2, hw]
theorem rdT_tup (h : hd s = 124 ∨ hd s = 35 ∨ (97 ≤ hd s ∧ hd s ≤ 122)) (hw : wordT s = (l, s1)) (h1 : hd s1 = 40) (hl : l ≠ []) : rdT (f + 1) op s G = tupT (rdT f) l (-1) s1 G op := by
  rw [rdT.eq_def]
  simp only
  rw [if_neg (by omega), if_neg (by omega), if_neg (by omega), if_neg (by omega), if_neg (by omega), hw]
  simp [h1, hl]
theorem rdT_atom (h : hd s = 124 ∨ hd s = 35 ∨ (97 ≤ hd s ∧ hd s ≤ 122)) (hw : wordT s = (l, s1)) (h1 : hd s1 ≠ 40) : rdT (f + 1) op s G = some ((G.length : Int), s1, G ++ [⟨2, 0, bs l, []⟩]) := by
  rw [rdT.eq_def]
  simp only
  rw [if_neg (by omega), if_neg (by omega), if_neg (by omega), if_neg (by omega), if_neg (by omega), hw]
  simp [h1]
theorem argsT_last {node : Rdr} {sep g : Nat} {acc : List Int} (h : node s G = some (k, s1, G1)) (h1 : hd s1 ≠ sep) (h2 : hd s1 = 41) : argsT node sep (g + 1) s G acc = some (acc ++ [k], s1.tail, G1) := by
  unfold argsT
  rw [h]
  have h3 : ¬ 41 = sep := by omega
  simp [h2, h3]
theorem argsT_more {node : Rdr} {sep g : Nat} {acc : List Int} (h : node s G = some (k, s1, G1)) (h1 : hd s1 = sep) : argsT node sep (g + 1) s G acc = argsT node sep g s1.tail G1 (acc ++ [k]) := by
  rw [argsT.eq_def]
  simp only
  rw [h]
  simp [h1]
theorem tupT_some {node : (Int → Option Int) → Rdr} {args : List Int} (h : hd s = 40) (ha : argsT (node fun x => if 0 ≤ n ∧ x = n then some (G.length : Int) else op x) (if l = [] then 124 else 32) (s.length + 1) s.tail (G ++ [⟨3, 0, bs (if l = [] then [124] else l), []⟩]) [] = some (args, s1, G1)) :
    tupT node l n s G op = some ((G.length : Int), s1, G1.set G.length ⟨3, 0, bs (if l = [] then [124] else l), args⟩) := by
  unfold tupT
  rw [if_pos h, ha]
end
/-- Numbers are int64s. -/
def NR (G : List Nd) : Prop := ∀ n ∈ G, -9223372036854775808 ≤ n.num ∧ n.num ≤ 9223372036854775807
theorem argsT_glue {node : Rdr} {sep : UInt8} (hsep : sep.toNat = 32 ∨ sep.toNat = 124) {T : Nat → List UInt8} {B : Nat → List Nd → Nat × List Nd} :
    ∀ (l : List Nat) (g : Nat) (G : List Nd) (acc : List Int) (rest : List UInt8), l ≠ [] → l.length ≤ g →
      (∀ a ∈ l, ∀ r G, Dl r → node (T a ++ r) G = some (((B a G).1 : Int), r, (B a G).2)) →
      argsT node sep.toNat g (glue [sep] (l.map T) ++ 41 :: rest) G acc = some (acc ++ (foldB B l G).1.map Int.ofNat, rest, (foldB B l G).2) := by
  intro l
  induction l with
  | nil => intro g G acc rest h; exact absurd rfl h
  | cons a l ih =>
    intro g G acc rest _ hg hn
    cases g with
    | zero => simp at hg
    | succ g =>
      cases l with
      | nil =>
        have h41 : hd (41 :: rest) = 41 := rfl
        have := argsT_last (acc := acc) (g := g) (sep := sep.toNat) (hn a (by simp) (41 :: rest) G (by intro c r e; obtain ⟨rfl, _⟩ := List.cons.inj e; simp)) (by omega) h41
        simpa [glue, foldB] using this
      | cons b l =>
        have e : glue [sep] ((a :: b :: l).map T) ++ 41 :: rest = T a ++ (sep :: (glue [sep] ((b :: l).map T) ++ 41 :: rest)) := by simp [glue]
        have h1 := argsT_more (acc := acc) (g := g) (sep := sep.toNat) (hn a (by simp) (sep :: (glue [sep] ((b :: l).map T) ++ 41 :: rest)) G (by intro c r e; obtain ⟨rfl, _⟩ := List.cons.inj e; omega)) rfl
        rw [e, h1, List.tail_cons, ih g _ _ rest (by simp) (by simpa using hg) fun c hc => hn c (by simp [hc])]
        simp [foldB]
theorem leafN {n : Nd} {s : Int} (hv : validNd n s = true) (hk : n.kind ≠ 3) : n = ⟨n.kind, n.num, n.label, []⟩ := by
  have := valid_leaf hv hk
  cases n
  simp at this ⊢
  exact this
theorem bs_lab (n : Nd) : bs (lab n) = n.label := bs_toList _
theorem valid_label {n : Nd} {s : Int} (h : validNd n s = true) : (n.kind = 0 → 0 ≤ n.num ∧ n.label = bs []) ∧ (n.kind = 1 → n.label = bs []) ∧ (n.kind = 2 → n.num = 0 ∧ atomB n.label = true) ∧ (n.kind = 3 → n.num = 0 ∧ atomB n.label = true ∧ 1 ≤ n.args.length) ∧ (n.kind = 4 → 0 ≤ n.num ∧ namesB n.label = true) := by
  have hem : ∀ l : ByteArray, emptyB l = true → l = bs [] := by
    intro l hl
    have : l.data.toList = [] := by rw [← Go.Lib.toList_data]; simpa [emptyB] using hl
    rw [← bs_toList l, this]
  unfold validNd at h
  refine ⟨fun hk => ?_, fun hk => ?_, fun hk => ?_, fun hk => ?_, fun hk => ?_⟩ <;> simp [hk] at h
  · exact ⟨h.1.1, hem _ h.1.2⟩
  · exact hem _ h.1.2
  · exact ⟨h.1.1, h.1.2⟩
  · exact ⟨h.1.1.1.1, h.1.1.1.2, by omega⟩
  · exact ⟨h.1.1, h.1.2⟩
theorem names_word {s : ByteArray} (h : namesB s = true) : (∀ c ∈ s.data.toList, letB c = true) ∧ s.data.toList ≠ [] := by
  simp only [namesB, Bool.or_eq_true, beq_iff_eq, Go.Lib.toList_data] at h
  rcases h with (h | h) | h <;> rw [h] <;> exact ⟨by decide, by simp⟩
theorem txt_tuple (C : List Nd) (f : Nat) (within : List Nat) (i : Nat) (hk : (nd C i).kind = 3) (hm : i ∉ within) :
    txt C (f + 1) within i = (if i ∈ ((kids C i).map (txt C f (within ++ [i]))).flatMap (·.2) then Lib.itoa i ++ 61 :: (headOf (nd C i) ++ 40 :: (glue (sepOf (nd C i)) (((kids C i).map (txt C f (within ++ [i]))).map (·.1)) ++ [41])) else headOf (nd C i) ++ 40 :: (glue (sepOf (nd C i)) (((kids C i).map (txt C f (within ++ [i]))).map (·.1)) ++ [41]),
      (((kids C i).map (txt C f (within ++ [i]))).flatMap (·.2)).filter fun k => decide (k ≠ i)) := by
  rw [txt]
  rw [if_neg (by omega), if_neg (by omega), if_neg (by omega), if_neg (by omega), if_neg hm]
/-- The text is read back. -/
theorem rdT_txt {C : List Nd} (hC : VG C) (hR : NR C) (hlen : C.length ≤ 9223372036854775807) : ∀ (f f' : Nat) (within : List Nat) (i : Nat) (op : Nat → Nat) (opz : Int → Option Int) (G : List Nd) (rest : List UInt8), f ≤ f' → f + within.length = C.length + 1 → within.Nodup → (∀ x ∈ within, x < C.length) → i < C.length → Dl rest →
    (∀ x ∈ (txt C f within i).2, opz (x : Int) = some (op x : Int)) →
    rdT f' opz ((txt C f within i).1 ++ rest) G = some (((bld C f within i op G).1 : Int), rest, (bld C f within i op G).2) := by
  intro f
  induction f with
  | zero =>
    intro f' within i op opz G rest hff hf hn hw hi
    have := hn.length_le_of_subset (l₂ := List.range C.length) fun x hx => List.mem_range.2 (hw x hx)
    simp at this
    omega
  | succ f ih =>
    intro f' within i op opz G rest hff hf hn hw hi hrest hop
    cases f' with
    | zero => omega
    | succ f' =>
    have hv := hC _ (nd_mem hi)
    have hr := hR _ (nd_mem hi)
    have hkk := valid_kind hv
    obtain ⟨v0, v1, v2, v3, v4⟩ := valid_label hv
    have hdr := dl_hd hrest
    by_cases hk : (nd C i).kind = 3
    · obtain ⟨hnum, hat, har⟩ := v3 hk
      by_cases hm : i ∈ within
      · have e1 : txt C (f + 1) within i = (64 :: Lib.itoa i, [i]) := by
          rw [txt, if_neg (by omega), if_neg (by omega), if_neg (by omega), if_neg (by omega), if_pos hm]
        have e2 : bld C (f + 1) within i op G = (op i, G) := by rw [bld, if_neg (by simp [hk]), if_pos hm]
        rw [e1] at hop ⊢
        rw [e2]
        exact rdT_ref rfl rfl (numT_itoa (i : Int) (by omega) (by omega) hrest.nl) (hop i (by simp))
      · rw [txt_tuple C f within i hk hm] at hop ⊢
        generalize hnm : ((kids C i).map (txt C f (within ++ [i]))).flatMap (·.2) = named at hop ⊢
        have e2 : bld C (f + 1) within i op G = (G.length, (foldB (fun a H => bld C f (within ++ [i]) a (fun x => if x = i then G.length else op x) H) (kids C i) (G ++ [{ nd C i with args := [] }])).2.set G.length { nd C i with args := (foldB (fun a H => bld C f (within ++ [i]) a (fun x => if x = i then G.length else op x) H) (kids C i) (G ++ [{ nd C i with args := [] }])).1.map Int.ofNat }) := by
          rw [bld, if_neg (by simp [hk]), if_neg hm]
        rw [e2]
        have hn' : (within ++ [i]).Nodup := by
          rw [List.nodup_append]
          exact ⟨hn, by simp, fun a ha b hb e => hm (by rw [← (by simpa using hb : b = i), ← e]; exact ha)⟩
        have hw' : ∀ x ∈ within ++ [i], x < C.length := by
          intro x hx
          rcases List.mem_append.1 hx with hx | hx
          · exact hw x hx
          · have : x = i := by simpa using hx
            omega
        have hkne : kids C i ≠ [] := by
          intro e
          have : (kids C i).length = (nd C i).args.length := by simp [kids]
          rw [e] at this
          simp at this; omega
        have hnode : ∀ (no : Int), (no = -1 ∧ i ∉ named ∨ no = (i : Int)) → ∀ a ∈ kids C i, ∀ r H, Dl r → rdT f' (fun x => if 0 ≤ no ∧ x = no then some (G.length : Int) else opz x) ((txt C f (within ++ [i]) a).1 ++ r) H = some (((bld C f (within ++ [i]) a (fun x => if x = i then G.length else op x) H).1 : Int), r, (bld C f (within ++ [i]) a (fun x => if x = i then G.length else op x) H).2) := by
          intro no hno a ha r H hr
          refine ih f' (within ++ [i]) a _ _ H r (by omega) (by simp; omega) hn' hw' (hC.kids hi ha) hr fun x hx => ?_
          have hxn : x ∈ named := by
            rw [← hnm]
            exact List.mem_flatMap.2 ⟨_, List.mem_map.2 ⟨a, ha, rfl⟩, hx⟩
          by_cases e : x = i
          · subst e
            rcases hno with ⟨_, hno⟩ | rfl
            · exact absurd hxn hno
            · simp
          · have h1 : ¬ (0 ≤ no ∧ (x : Int) = no) := by
              rcases hno with ⟨rfl, _⟩ | rfl
              · omega
              · omega
            simp only [if_neg h1, if_neg e]
            exact hop x (List.mem_filter.2 ⟨hxn, by simpa using e⟩)
        have htup : ∀ (no : Int), (no = -1 ∧ i ∉ named ∨ no = (i : Int)) → ∀ (lb : List UInt8), lb = headOf (nd C i) →
            tupT (rdT f') lb no (40 :: (glue (sepOf (nd C i)) (((kids C i).map (txt C f (within ++ [i]))).map (·.1)) ++ [41]) ++ rest) G opz = some ((G.length : Int), rest, (foldB (fun a H => bld C f (within ++ [i]) a (fun x => if x = i then G.length else op x) H) (kids C i) (G ++ [{ nd C i with args := [] }])).2.set G.length { nd C i with args := (foldB (fun a H => bld C f (within ++ [i]) a (fun x => if x = i then G.length else op x) H) (kids C i) (G ++ [{ nd C i with args := [] }])).1.map Int.ofNat }) := by
          intro no hno lb hlb
          have hlne := (atom_word hat (rest := []) (by intro c r e; cases e)).2.1
          have hlab : bs (if lb = [] then [124] else lb) = (nd C i).label := by
            rw [hlb]
            unfold headOf
            by_cases hp : isPair (nd C i) = true
            · rw [if_pos hp, if_pos rfl]
              simp only [isPair, Bool.and_eq_true, decide_eq_true_eq] at hp
              rw [← hp.1, bs_lab]
            · have hlne' : ¬ lab (nd C i) = [] := hlne
              rw [if_neg hp, if_neg hlne', bs_lab]
          have hsep : sepOf (nd C i) = [if lb = [] then 124 else 32] := by
            rw [hlb]
            unfold sepOf headOf
            by_cases hp : isPair (nd C i) = true
            · simp [hp]
            · have hlne' : lab (nd C i) ≠ [] := hlne
              simp [hp, hlne']
          have hnd3 : ∀ args, (⟨3, 0, bs (if lb = [] then [124] else lb), args⟩ : Nd) = { nd C i with args := args } := by
            intro args
            rw [hlab]
            cases hx : nd C i
            rw [hx] at hk hnum
            simp at hk hnum
            simp [hk, hnum]
          have e4 : glue (sepOf (nd C i)) (((kids C i).map (txt C f (within ++ [i]))).map (·.1)) ++ [41] ++ rest = glue [if lb = [] then 124 else 32] ((kids C i).map fun a => (txt C f (within ++ [i]) a).1) ++ 41 :: rest := by
            rw [hsep, List.map_map, List.append_assoc]; rfl
          have e3 : (if lb = [] then (124 : UInt8) else 32).toNat = (if lb = [] then 124 else 32) := by split <;> rfl
          have hA := argsT_glue (node := rdT f' fun x => if 0 ≤ no ∧ x = no then some (G.length : Int) else opz x) (sep := if lb = [] then 124 else 32) (by split <;> simp)
            (T := fun a => (txt C f (within ++ [i]) a).1) (B := fun a H => bld C f (within ++ [i]) a (fun x => if x = i then G.length else op x) H) (kids C i)
            ((40 :: (glue (sepOf (nd C i)) (((kids C i).map (txt C f (within ++ [i]))).map (·.1)) ++ [41] ++ rest)).length + 1) (G ++ [{ nd C i with args := [] }]) [] rest hkne ?_ (hnode no hno)
          · rw [← hnd3, e3] at hA
            have := tupT_some (node := rdT f') (op := opz) (l := lb) (n := no) (G := G) (s := 40 :: (glue (sepOf (nd C i)) (((kids C i).map (txt C f (within ++ [i]))).map (·.1)) ++ [41] ++ rest)) rfl (by rw [List.tail_cons]; rw [e4] at hA ⊢; exact hA)
            rw [List.cons_append, this, hnd3, hnd3]
            simp
          · rw [hsep]
            simp only [List.length_append, List.length_cons, glue_length, List.length_map, List.length_nil]
            omega
        have hbody : ∀ r, hd r = 40 → wordT (headOf (nd C i) ++ r) = (headOf (nd C i), r) := by
          intro r hr
          unfold headOf
          split
          · simpa using wordT_none hr
          · exact (atom_word hat (by
              intro c r' e
              rw [e] at hr
              exact letB_no (by have : c.toNat = 40 := hr; omega))).1
        by_cases hin : i ∈ named
        · simp only [if_pos hin]
          have e5 : Lib.itoa i ++ 61 :: (headOf (nd C i) ++ 40 :: (glue (sepOf (nd C i)) (((kids C i).map (txt C f (within ++ [i]))).map (·.1)) ++ [41])) ++ rest = Lib.itoa i ++ (61 :: (headOf (nd C i) ++ (40 :: (glue (sepOf (nd C i)) (((kids C i).map (txt C f (within ++ [i]))).map (·.1)) ++ [41]) ++ rest))) := by simp
          rw [e5]
          have hnt := numT_itoa (i : Int) (by omega) (by omega) (rest := 61 :: (headOf (nd C i) ++ (40 :: (glue (sepOf (nd C i)) (((kids C i).map (txt C f (within ++ [i]))).map (·.1)) ++ [41]) ++ rest))) (nl_cons (by decide))
          rw [rdT_marked (by rw [itoa_nat _ (by omega)]; exact hd_dec _ _) hnt rfl (by omega) (hbody _ rfl)]
          exact htup i (.inr rfl) _ rfl
        · simp only [if_neg hin]
          have e5 : headOf (nd C i) ++ 40 :: (glue (sepOf (nd C i)) (((kids C i).map (txt C f (within ++ [i]))).map (·.1)) ++ [41]) ++ rest = headOf (nd C i) ++ (40 :: (glue (sepOf (nd C i)) (((kids C i).map (txt C f (within ++ [i]))).map (·.1)) ++ [41]) ++ rest) := by simp
          rw [e5]
          have hb := hbody (40 :: (glue (sepOf (nd C i)) (((kids C i).map (txt C f (within ++ [i]))).map (·.1)) ++ [41]) ++ rest) rfl
          have ht := htup (-1) (.inl ⟨rfl, hin⟩) _ rfl
          by_cases hp : isPair (nd C i) = true
          · have eh : headOf (nd C i) = [] := by simp [headOf, hp]
            rw [eh] at ht ⊢
            rw [List.nil_append, rdT_pair rfl]
            exact ht
          · have eh : headOf (nd C i) = lab (nd C i) := by simp [headOf, hp]
            rw [eh] at ht hb ⊢
            have ha := atom_word hat (rest := 40 :: (glue (sepOf (nd C i)) (((kids C i).map (txt C f (within ++ [i]))).map (·.1)) ++ [41]) ++ rest) (nl_cons (by decide))
            exact (rdT_tup ha.2.2 hb rfl ha.2.1).trans ht
    · have e2 : bld C (f + 1) within i op G = (G.length, G ++ [nd C i]) := by rw [bld, if_pos hk]
      rw [e2]
      have hleaf := leafN hv hk
      by_cases k0 : (nd C i).kind = 0
      · obtain ⟨h1, h2⟩ := v0 k0
        have e1 : txt C (f + 1) within i = (95 :: Lib.itoa (nd C i).num, []) := by rw [txt, if_pos k0]
        rw [e1]
        have hw : wordT (95 :: (Lib.itoa (nd C i).num ++ rest)) = (95 :: Lib.itoa (nd C i).num, rest) := by
          rw [itoa_nat _ h1]
          exact wordT_plain (a := 95 :: Lib.decDigits (nd C i).num.toNat) (by simp) (by
            intro c hc
            rcases List.mem_cons.1 hc with rfl | hc
            · decide
            · exact dec_let _ c hc) hrest.nl
        rw [List.cons_append, rdT_free rfl hw (numOf_itoa _ hr.1 hr.2), ← h2, ← k0, ← hleaf]
      by_cases k1 : (nd C i).kind = 1
      · have h2 := v1 k1
        have e1 : txt C (f + 1) within i = (Lib.itoa (nd C i).num, []) := by rw [txt, if_neg k0, if_pos k1]
        rw [e1]
        rw [rdT_int (hd_itoa (nd C i).num rest) (numT_itoa _ hr.1 hr.2 hrest.nl) (by omega), ← h2, ← k1, ← hleaf]
      by_cases k2 : (nd C i).kind = 2
      · obtain ⟨h1, h2⟩ := v2 k2
        have e1 : txt C (f + 1) within i = (lab (nd C i), []) := by rw [txt, if_neg k0, if_neg k1, if_pos k2]
        rw [e1]
        obtain ⟨a1, a2, a3⟩ := atom_word h2 hrest.nl
        refine (rdT_atom a3 a1 (by omega)).trans ?_
        have : (⟨2, 0, bs (nd C i).label.data.toList, []⟩ : Nd) = nd C i := by rw [bs_toList, ← k2, ← h1, ← hleaf]
        rw [this]
      · have k4 : (nd C i).kind = 4 := by omega
        obtain ⟨h1, h2⟩ := v4 k4
        have e1 : txt C (f + 1) within i = (60 :: (lab (nd C i) ++ 32 :: (Lib.itoa (nd C i).num ++ [62])), []) := by rw [txt, if_neg k0, if_neg k1, if_neg k2, if_pos k4]
        rw [e1]
        obtain ⟨n1, n2⟩ := names_word h2
        have e5 : 60 :: (lab (nd C i) ++ 32 :: (Lib.itoa (nd C i).num ++ [62])) ++ rest = 60 :: (lab (nd C i) ++ (32 :: (Lib.itoa (nd C i).num ++ (62 :: rest)))) := by simp
        have hw := wordT_plain n2 n1 (rest := 32 :: (Lib.itoa (nd C i).num ++ (62 :: rest))) (nl_cons (by decide))
        change wordT (lab (nd C i) ++ _) = (lab (nd C i), _) at hw
        simp only [e5]
        refine (rdT_name (s := 60 :: (lab (nd C i) ++ (32 :: (Lib.itoa (nd C i).num ++ (62 :: rest))))) rfl rfl hw rfl (numT_itoa _ hr.1 hr.2 (rest := 62 :: rest) (nl_cons (by decide))) rfl).trans ?_
        rw [bs_lab, ← k4, ← hleaf]
        rfl
end Go.Proofs.YtnleljpebnnhfaaGreatDoor

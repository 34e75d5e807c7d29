/- A trie in memory: the map of a node, the nodes; what an operation on it does. -/
import Derived.Test.YthlibdpemocpmaaBase
import Derived.Test.YthlibdpemocpmaaTriePlain
import Derived.Maps.RangeWalk
import Derived.Maps.OwnSet
import Derived.Deep.Heap
namespace Go.Proofs.Ythlibdpemocpmaa
set_option linter.unusedVariables false
set_option linter.unusedSimpArgs false
open Go.RowKit Go.Maps

/-- Where a node's pointer leads. -/
def nptr : Option Nat → Option Addr
  | none => none
  | some b => some ⟨b, 0, none⟩

/-- How a pointer to a node reads. -/
def ptrElem : Value → Option (DataW Unit × List MemPlace)
  | .pointer none => some (.lit (.int .i64 (-1)), [])
  | .pointer (some ⟨b, 0, none⟩) => some (.lit (.int .i64 (b : Int)), [])
  | _ => none

theorem ptrElem_none : ptrElem (.pointer none) = some (.lit (.int .i64 (-1)), []) := rfl
theorem ptrElem_some (b : Nat) : ptrElem (.pointer (some ⟨b, 0, none⟩)) = some (.lit (.int .i64 (b : Int)), []) := rfl
theorem ptrElem_inv {v : Value} {y : DataW Unit × List MemPlace} (h : ptrElem v = some y) : ∃ o : Option Nat, v = .pointer (nptr o) ∧ y = (.lit (.int .i64 (match o with | none => -1 | some b => (b : Int))), []) := by
  unfold ptrElem at h
  split at h
  · injection h with h; exact ⟨none, rfl, h.symm⟩
  · injection h with h; exact ⟨some _, rfl, h.symm⟩
  · cases h

theorem ptrElem_is {v : Value} {y : Nat} {ps : List MemPlace} (h : ptrElem v = some (.lit (.int .i64 (y : Int)), ps)) : v = .pointer (some ⟨y, 0, none⟩) := by
  obtain ⟨q, rfl, hq⟩ := ptrElem_inv h
  rcases q with _ | q
  · injection hq with hq _; injection hq with hq; injection hq with _ hq; simp at hq
  · injection hq with hq _; injection hq with hq; injection hq with _ hq
    simp only at hq
    obtain rfl : y = q := by omega
    rfl
theorem ptrElem_nil {v : Value} {ps : List MemPlace} (h : ptrElem v = some (.lit (.int .i64 (-1)), ps)) : v = .pointer none := by
  obtain ⟨q, rfl, hq⟩ := ptrElem_inv h
  rcases q with _ | q
  · rfl
  · injection hq with hq _; injection hq with hq; injection hq with _ hq; simp only at hq; omega

def kb (c : Nat) : Lit := .int .u8 (c : Int)
theorem kb_inj {c d : Nat} (h : kb c = kb d) : c = d := by unfold kb at h; injection h with _ h; omega
theorem kb_key (c : Nat) : WideAt.IsKeyLit (kb c) := trivial
theorem kb_same (c d : Nat) : (kb d).sameKey (kb c) = (d == c) := by
  by_cases e : d = c
  · subst e; simp [Lit.sameKey, kb]
  · rw [sameKey_ne (fun h => e (kb_inj h))]; simpa using e

theorem wf_u8 {c : Nat} (hc : c < 256) : (Lit.int .u8 (c : Int)).wf = true := by
  simp only [Lit.wf, Bool.and_eq_true, decide_eq_true_eq]
  have e1 : IntKind.u8.min = 0 := by decide
  have e2 : IntKind.u8.max = 255 := by decide
  omega

theorem lawByte : Keyed Try.prog 5 := int_keyed Try.underlying5
theorem zeroPtr (w : World) : (zeroValue 52).run Try.prog w = .ok (.pointer none) w := by kernel_rfl

/-- Block b is a map from bytes to nodes. -/
def PMap (w : World) (b n : Nat) (F : Nat → Option Nat) : Prop :=
  ∃ D : DataW Unit, w.ownsMap Try.prog 5 ptrElem b n D ∧ ∀ c, c < 256 → (F c = none → Maps.has D (kb c) = false) ∧ ∀ x, F c = some x → Maps.has D (kb c) = true ∧ ∀ zd, D.atKey (kb c) zd = .lit (.int .i64 (x : Int))

section
variable {w w' : World} {b n n' : Nat} {F G : Nat → Option Nat}

theorem PMap.congr (h : PMap w b n F) (e : ∀ c, c < 256 → F c = G c) : PMap w b n G := by
  obtain ⟨D, h1, h2⟩ := h
  exact ⟨D, h1, fun c hc => by rw [← e c hc]; exact h2 c hc⟩
theorem PMap.mono (h : PMap w b n F) (hn : n ≤ n') : PMap w b n' F := by
  obtain ⟨D, h1, h2⟩ := h
  exact ⟨D, h1.mono hn, h2⟩
theorem PMap.lt (h : PMap w b n F) : b < w.heap.size := by
  obtain ⟨D, h1, h2⟩ := h
  exact h1.lt
theorem PMap.kept (h : PMap w b n F) (e : w'.heap[b]? = w.heap[b]?) : PMap w' b n F := by
  obtain ⟨D, ⟨es, clock, h1, h2⟩, h3⟩ := h
  exact ⟨D, ⟨es, clock, e.trans h1, h2⟩, h3⟩
theorem PMap.isMap (h : PMap w b n F) : ∃ es clock, w.heap[b]? = some (.map es clock) := by
  obtain ⟨D, ⟨es, clock, h1, h2⟩, h3⟩ := h
  exact ⟨es, clock, h1⟩
theorem PMap.made (w : World) : PMap (w.alloc (.map #[] 0)) w.heap.size 0 (fun _ => none) :=
  ⟨_, World.ownsMap_made _ _ _ _, fun c hc => ⟨fun _ => rfl, fun x hx => by cases hx⟩⟩
end

section
variable {ops : Array Oper} {rest : List Oper} {o : Oper} {a : Act} {Q : Exit → Act → World → Prop} (w : World)

theorem wp_lookup_hit (hg : o.guard = none) (m x : Operand) (hop : o.op = Op.lookup 56 m x false) (b n : Nat) (F : Nat → Option Nat) (hm : a.eval m = .map (some b)) (hP : PMap w b n F)
    (c : Nat) (hc : c < 256) (hx : a.eval x = .int .u8 (c : Int)) (y : Nat) (hF : F c = some y) (h : wpList Try.prog ops Q rest (a.put o.dst (.pointer (some ⟨y, 0, none⟩))) w) : wpList Try.prog ops Q (o :: rest) a w := by
  obtain ⟨D, hown, hD⟩ := hP
  obtain ⟨v, ps, hrun, hv⟩ := hown.lookup lawByte Try.underlying56 (zeroPtr w) ptrElem_none (keyOf_int_mk Try.underlying5 (wf_u8 hc))
  rw [show Lit.int .u8 (c : Int) = kb c from rfl, ((hD c hc).2 y hF).2] at hv
  obtain rfl := ptrElem_is hv
  refine wpList_plain hg fun K' hK' => ?_
  unfold Oper.wp
  simp [execOp, hop, hm, hx, hrun, Result.andThen]
  exact hK' _ _ h

theorem wp_lookup_miss (hg : o.guard = none) (m x : Operand) (hop : o.op = Op.lookup 56 m x false) (b n : Nat) (F : Nat → Option Nat) (hm : a.eval m = .map (some b)) (hP : PMap w b n F)
    (c : Nat) (hc : c < 256) (hx : a.eval x = .int .u8 (c : Int)) (hF : F c = none) (h : wpList Try.prog ops Q rest (a.put o.dst (.pointer none)) w) : wpList Try.prog ops Q (o :: rest) a w := by
  obtain ⟨D, hown, hD⟩ := hP
  obtain ⟨v, ps, hrun, hv⟩ := hown.lookup lawByte Try.underlying56 (zeroPtr w) ptrElem_none (keyOf_int_mk Try.underlying5 (wf_u8 hc))
  rw [show Lit.int .u8 (c : Int) = kb c from rfl, atKey_of_not_has ((hD c hc).1 hF)] at hv
  obtain rfl := ptrElem_nil hv
  refine wpList_plain hg fun K' hK' => ?_
  unfold Oper.wp
  simp [execOp, hop, hm, hx, hrun, Result.andThen]
  exact hK' _ _ h

theorem wp_store_ptr (hg : o.guard = none) (m x v : Operand) (hop : o.op = Op.mapUpdate 56 m x v) (b n : Nat) (F : Nat → Option Nat) (hm : a.eval m = .map (some b)) (hP : PMap w b n F) (hn : n < 1000)
    (c : Nat) (hc : c < 256) (hx : a.eval x = .int .u8 (c : Int)) (y : Nat) (hv : a.eval v = .pointer (some ⟨y, 0, none⟩))
    (h : ∀ w', PMap w' b (n + 1) (fun z => if z = c then some y else F z) → w.grownBy w' (some b) → wpList Try.prog ops Q rest (a.put o.dst undef) w') : wpList Try.prog ops Q (o :: rest) a w := by
  obtain ⟨D, hown, hD⟩ := hP
  refine wpList_mapUpdate_own w hg m x v 56 hop 5 52 lawByte Try.underlying56 ptrElem b n D hm hown (by unfold maxLen; omega) _ _ _ hx hv (keyOf_int_mk Try.underlying5 (wf_u8 hc)) _ [] (ptrElem_some y) ?_
  intro w' hown' hg'
  refine h w' ⟨_, hown', fun d hd => ?_⟩ hg'
  have hM : IsMap D := hown.isMap
  show ((if d = c then some y else F d) = none → _) ∧ ∀ z, (if d = c then some y else F d) = some z → _
  by_cases e : d = c
  · subst e
    rw [if_pos rfl, show Lit.int .u8 (d : Int) = kb d from rfl, has_put_same hM (kb_key d)]
    exact ⟨fun h => (by cases h), fun z hz => by
      injection hz with hz
      subst hz
      exact ⟨rfl, fun zd => by rw [atKey_put_same hM (kb_key d)]⟩⟩
  · rw [if_neg e, show Lit.int .u8 (c : Int) = kb c from rfl, has_put_other (fun h => e (kb_inj h))]
    exact ⟨(hD d hd).1, fun z hz => ⟨((hD d hd).2 z hz).1, fun zd => by rw [atKey_put_other (fun h => e (kb_inj h))]; exact ((hD d hd).2 z hz).2 zd⟩⟩
end

/-! ### The trie -/
/-- The nodes lie in w: the map of the node of beginning p in block mb p, the node itself in the next block. -/
structure TrieAt (w : World) (B E : Nat) (ps : List (List Nat)) (mb : List Nat → Nat) (wd : List Nat → Int) : Prop where
  lo : ∀ p ∈ ps, B ≤ mb p
  hi : ∀ p ∈ ps, mb p + 1 < E
  inj : ∀ p ∈ ps, ∀ q ∈ ps, mb p = mb q → p = q
  cell0 : ∀ p ∈ ps, w.cell? ⟨mb p + 1, 0, none⟩ = some (.map (some (mb p)))
  cell1 : ∀ p ∈ ps, w.cell? ⟨mb p + 1, 1, none⟩ = some (.int .i64 (wd p))
  fr : ∀ p ∈ ps, w.frozen? ⟨mb p + 1, 1, none⟩ = false
  maps : ∀ p ∈ ps, PMap w (mb p) ps.length (fun c => if p ++ [c] ∈ ps then some (mb (p ++ [c]) + 1) else none)

section
variable {w w' : World} {B E E' : Nat} {ps : List (List Nat)} {mb : List Nat → Nat} {wd wd' : List Nat → Int}

theorem TrieAt.kept (h : TrieAt w B E ps mb wd) (e : ∀ k, B ≤ k → k < E → w'.heap[k]? = w.heap[k]?) : TrieAt w' B E ps mb wd := by
  obtain ⟨h1, h2, h3, h4, h5, h6, h7⟩ := h
  have key : ∀ p ∈ ps, w'.heap[mb p + 1]? = w.heap[mb p + 1]? := fun p hp => e _ (by have := h1 p hp; omega) (h2 p hp)
  exact ⟨h1, h2, h3, fun p hp => (World.cell?_of_block (a := ⟨mb p + 1, 0, none⟩) (key p hp)).trans (h4 p hp), fun p hp => (World.cell?_of_block (a := ⟨mb p + 1, 1, none⟩) (key p hp)).trans (h5 p hp),
    fun p hp => (World.frozen?_of_block (a := ⟨mb p + 1, 1, none⟩) (key p hp)).trans (h6 p hp), fun p hp => (h7 p hp).kept (e _ (h1 p hp) (by have := h2 p hp; omega))⟩
theorem TrieAt.below (h : TrieAt w B E ps mb wd) (hE : E ≤ w.heap.size) (hb : Below w.heap.size w w') : TrieAt w' B E ps mb wd := h.kept fun k _ hk => hb.block k (by omega)
theorem TrieAt.grow (h : TrieAt w B E ps mb wd) (hE : E ≤ E') : TrieAt w B E' ps mb wd := ⟨h.lo, fun p hp => Nat.lt_of_lt_of_le (h.hi p hp) hE, h.inj, h.cell0, h.cell1, h.fr, h.maps⟩
theorem TrieAt.wdcongr (h : TrieAt w B E ps mb wd) (e : ∀ p ∈ ps, wd p = wd' p) : TrieAt w B E ps mb wd' :=
  ⟨h.lo, h.hi, h.inj, h.cell0, fun p hp => by rw [← e p hp]; exact h.cell1 p hp, h.fr, h.maps⟩

theorem TrieAt.ne (h : TrieAt w B E ps mb wd) {p q : List Nat} (hp : p ∈ ps) (hq : q ∈ ps) : mb p ≠ mb q + 1 := fun e => by
  obtain ⟨es, clock, h1⟩ := (h.maps p hp).isMap
  have h2 := h.cell0 q hq
  rw [← e] at h2
  simp [World.cell?, h1] at h2

/-- A word ends at a node. -/
theorem TrieAt.setWord (h : TrieAt w B E ps mb wd) {p : List Nat} (hp : p ∈ ps) (i : Int) : TrieAt (w.setCell ⟨mb p + 1, 1, none⟩ (.int .i64 i)) B E ps mb (fun q => if q = p then i else wd q) := by
  refine ⟨h.lo, h.hi, h.inj, fun q hq => ?_, fun q hq => ?_, fun q hq => by rw [World.frozen?_setCell]; exact h.fr q hq, fun q hq => (h.maps q hq).kept (Go.Deep.blk_setCell_other _ _ _ _ (h.ne hq hp))⟩
  · rw [World.cell?_setCell_other _ _ _ _ (by intro e; injection e with _ e; cases e)]
    exact h.cell0 q hq
  · by_cases e : q = p
    · subst e
      rw [if_pos rfl]
      exact World.cell?_setCell_same _ _ _ (h.cell1 q hq)
    · rw [if_neg e, World.cell?_setCell_other _ _ _ _ (by intro e2; injection e2 with e2; exact e (h.inj q hq p hp (by omega)))]
      exact h.cell1 q hq

/-- The root alone. -/
theorem trie_root (w : World) : TrieAt ((w.alloc (.map #[] 0)).alloc (.cells #[.map (some w.heap.size), .int .i64 (-1)] 58)) w.heap.size (w.heap.size + 2) [[]] (fun _ => w.heap.size) (fun _ => -1) := by
  have hs : (w.alloc (.map #[] 0)).heap.size = w.heap.size + 1 := by simp
  have hnew := Go.Deep.blk_alloc_new (w.alloc (.map #[] 0)) (.cells #[.map (some w.heap.size), .int .i64 (-1)] 58)
  rw [hs] at hnew
  refine ⟨fun _ _ => Nat.le_refl _, fun _ _ => by omega, fun p hp q hq _ => ?_, fun _ _ => by (unfold World.cell?; rw [hnew]; rfl), fun _ _ => by (unfold World.cell?; rw [hnew]; rfl), fun _ _ => by (unfold World.frozen?; rw [hnew]; rfl), fun p hp => ?_⟩
  · rw [List.mem_singleton] at hp hq
    rw [hp, hq]
  · refine (((PMap.made w).kept (w' := (w.alloc (.map #[] 0)).alloc _) (Go.Deep.blk_alloc_lt _ _ _ (by rw [hs]; omega))).mono (Nat.zero_le _)).congr fun c hc => ?_
    rw [if_neg]
    simp

/-- A node more. -/
theorem TrieAt.node (h : TrieAt w B E ps mb wd) (hE : E ≤ w.heap.size) (hB : B ≤ w.heap.size) (hC : Clo ps) {p : List Nat} {c : Nat} (hp : p ∈ ps) (hn : ¬ p ++ [c] ∈ ps)
    (hg : ((w.alloc (.map #[] 0)).alloc (.cells #[.map (some w.heap.size), .int .i64 (-1)] 58)).grownBy w' (some (mb p)))
    (hP : PMap w' (mb p) (ps.length + 1) (fun z => if z = c then some (w.heap.size + 1) else if p ++ [z] ∈ ps then some (mb (p ++ [z]) + 1) else none)) (hwd : wd (p ++ [c]) = -1) :
    TrieAt w' B (w.heap.size + 2) (ps ++ [p ++ [c]]) (fun q => if q = p ++ [c] then w.heap.size else mb q) wd := by
  have hs : (w.alloc (.map #[] 0)).heap.size = w.heap.size + 1 := by simp
  have hnew := Go.Deep.blk_alloc_new (w.alloc (.map #[] 0)) (.cells #[.map (some w.heap.size), .int .i64 (-1)] 58)
  rw [hs] at hnew
  have hmp := h.hi p hp
  have hnode : w'.heap[w.heap.size + 1]? = some (.cells #[.map (some w.heap.size), .int .i64 (-1)] 58 (0, 0)) :=
    (hg.block _ (by simp <;> omega) (by intro e; injection e with e; omega)).trans hnew
  have hold : ∀ k, k < w.heap.size → k ≠ mb p → w'.heap[k]? = w.heap[k]? := fun k hk hne =>
    (hg.block k (by simp <;> omega) (by intro e; injection e with e; exact hne e)).trans ((Go.Deep.blk_alloc_lt _ _ _ (by rw [hs]; omega)).trans (Go.Deep.blk_alloc_lt _ _ _ hk))
  have hneq : ∀ q ∈ ps, q ≠ p ++ [c] := fun q hq e => hn (e ▸ hq)
  have hlen : (ps ++ [p ++ [c]]).length = ps.length + 1 := by simp
  have hmap : PMap w' w.heap.size 0 (fun _ => none) := (PMap.made w).kept
    ((hg.block _ (by simp <;> omega) (by intro e; injection e with e; omega)).trans (Go.Deep.blk_alloc_lt _ _ _ (by rw [hs]; omega)))
  have hcase : ∀ q ∈ ps ++ [p ++ [c]], (q ∈ ps ∧ q ≠ p ++ [c]) ∨ q = p ++ [c] := fun q hq => by
    rcases List.mem_append.1 hq with h1 | h1
    · exact .inl ⟨h1, hneq q h1⟩
    · exact .inr (List.mem_singleton.1 h1)
  refine ⟨fun q hq => ?_, fun q hq => ?_, fun q hq r hr e => ?_, fun q hq => ?_, fun q hq => ?_, fun q hq => ?_, fun q hq => ?_⟩
  · rcases hcase q hq with ⟨h1, h2⟩ | h1
    · simp only [if_neg h2]; exact h.lo q h1
    · simp only [if_pos h1]; exact hB
  · rcases hcase q hq with ⟨h1, h2⟩ | h1
    · simp only [if_neg h2]; have := h.hi q h1; omega
    · simp only [if_pos h1]; omega
  · rcases hcase q hq with ⟨h1, h2⟩ | h1 <;> rcases hcase r hr with ⟨h3, h4⟩ | h3
    · simp only [if_neg h2, if_neg h4] at e; exact h.inj q h1 r h3 e
    · simp only [if_neg h2, if_pos h3] at e; have := h.hi q h1; omega
    · simp only [if_pos h1, if_neg h4] at e; have := h.hi r h3; omega
    · rw [h1, h3]
  · rcases hcase q hq with ⟨h1, h2⟩ | h1
    · simp only [if_neg h2]
      exact (World.cell?_of_block (a := ⟨mb q + 1, 0, none⟩) (hold (mb q + 1) (by have := h.hi q h1; omega) (fun e => h.ne hp h1 e.symm))).trans (h.cell0 q h1)
    · simp only [if_pos h1]; unfold World.cell?; rw [hnode]; rfl
  · rcases hcase q hq with ⟨h1, h2⟩ | h1
    · simp only [if_neg h2]
      exact (World.cell?_of_block (a := ⟨mb q + 1, 1, none⟩) (hold (mb q + 1) (by have := h.hi q h1; omega) (fun e => h.ne hp h1 e.symm))).trans (h.cell1 q h1)
    · simp only [if_pos h1]; rw [h1, hwd]; unfold World.cell?; rw [hnode]; rfl
  · rcases hcase q hq with ⟨h1, h2⟩ | h1
    · simp only [if_neg h2]
      exact (World.frozen?_of_block (a := ⟨mb q + 1, 1, none⟩) (hold (mb q + 1) (by have := h.hi q h1; omega) (fun e => h.ne hp h1 e.symm))).trans (h.fr q h1)
    · simp only [if_pos h1]; unfold World.frozen?; rw [hnode]; rfl
  · rw [hlen]
    rcases hcase q hq with ⟨h1, h2⟩ | h1
    · simp only [if_neg h2]
      by_cases e : q = p
      · subst e
        refine hP.congr fun z hz => ?_
        by_cases e2 : z = c
        · subst e2; rw [if_pos rfl, if_pos (by simp), if_pos rfl]
        · have e3 : q ++ [z] ≠ q ++ [c] := fun e => e2 (by simpa using e)
          rw [if_neg e2]
          by_cases e4 : q ++ [z] ∈ ps
          · rw [if_pos e4, if_pos (by simp [e4]), if_neg e3]
          · rw [if_neg e4, if_neg (by simp [e4, e2])]
      · refine (((h.maps q h1).kept (w' := w') (hold _ (by have := h.hi q h1; omega) (fun e2 => e (h.inj q h1 p hp e2)))).mono (Nat.le_succ _)).congr fun z hz => ?_
        have e3 : q ++ [z] ≠ p ++ [c] := fun e2 => e (List.append_inj' e2 rfl).1
        by_cases e4 : q ++ [z] ∈ ps
        · rw [if_pos e4, if_pos (by simp [e4]), if_neg e3]
        · rw [if_neg e4, if_neg (by simp [e4]; intro e5; exact absurd e5 e)]
    · simp only [if_pos h1]
      refine (hmap.mono (Nat.zero_le _)).congr fun z hz => ?_
      rw [if_neg]
      rw [List.mem_append, List.mem_singleton]
      rintro (h2 | h2)
      · rw [h1] at h2; exact hn (hC.2 _ _ h2)
      · rw [h1] at h2
        have := congrArg List.length h2
        simp at this
end
end Go.Proofs.Ythlibdpemocpmaa

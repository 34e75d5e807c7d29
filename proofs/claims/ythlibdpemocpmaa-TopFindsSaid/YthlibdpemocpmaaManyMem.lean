/- The machine of many words in memory: the row of states, their maps, their lists; what an operation on it does. -/
import Derived.Test.YthlibdpemocpmaaTrieSize
import Derived.Test.YthlibdpemocpmaaManyPlain
import Derived.Test.YthlibdpemocpmaaOwnAt
namespace Go.Proofs.Ythlibdpemocpmaa
set_option linter.unusedVariables false
set_option linter.unusedSimpArgs false
open Go.RowKit Go.Maps

theorem zeroI (w : World) : (zeroValue 3).run Try.prog w = .ok (.int .i64 0) w := by kernel_rfl
theorem info_state : (Try.prog.info? 67).map (fun i => (i.zero, i.size, i.bytes)) = some (some (.agg #[.map none, .int .i64 0, .slice none 0 0]), 3, 40) := by kernel_rfl

/-- Block b is a map from bytes to numbers of nodes. -/
def IMap (w : World) (b n : Nat) (F : Nat → Option Nat) : Prop :=
  ∃ D : DataW Unit, w.ownsMap Try.prog 5 (plainElem Try.prog 3) b n D ∧ ∀ c, c < 256 → (F c = none → Maps.has D (kb c) = false) ∧ ∀ x, F c = some x → Maps.has D (kb c) = true ∧ ∀ zd, D.atKey (kb c) zd = .lit (.int .i64 (x : Int))

section
variable {w w' : World} {b n n' : Nat} {F G : Nat → Option Nat}
theorem IMap.congr (h : IMap w b n F) (e : ∀ c, c < 256 → F c = G c) : IMap w b n G := by
  obtain ⟨D, h1, h2⟩ := h
  exact ⟨D, h1, fun c hc => by rw [← e c hc]; exact h2 c hc⟩
theorem IMap.mono (h : IMap w b n F) (hn : n ≤ n') : IMap w b n' F := by
  obtain ⟨D, h1, h2⟩ := h
  exact ⟨D, h1.mono hn, h2⟩
theorem IMap.lt (h : IMap w b n F) : b < w.heap.size := by
  obtain ⟨D, h1, h2⟩ := h
  exact h1.lt
theorem IMap.kept (h : IMap w b n F) (e : w'.heap[b]? = w.heap[b]?) : IMap w' b n F := by
  obtain ⟨D, ⟨es, clock, h1, h2⟩, h3⟩ := h
  exact ⟨D, ⟨es, clock, e.trans h1, h2⟩, h3⟩
theorem IMap.isMap (h : IMap w b n F) : ∃ es clock, w.heap[b]? = some (.map es clock) := by
  obtain ⟨D, ⟨es, clock, h1, h2⟩, h3⟩ := h
  exact ⟨es, clock, h1⟩
theorem IMap.made (w : World) : IMap (w.alloc (.map #[] 0)) w.heap.size 0 (fun _ => none) :=
  ⟨_, World.ownsMap_made _ _ _ _, fun c hc => ⟨fun _ => rfl, fun x hx => by cases hx⟩⟩
end

section
variable {ops : Array Oper} {rest : List Oper} {o : Oper} {a : Act} {Q : Exit → Act → World → Prop} (w : World)

theorem wp_look_hit (hg : o.guard = none) (m x : Operand) (hop : o.op = Op.lookup 65 m x true) (b n : Nat) (F : Nat → Option Nat) (hm : a.eval m = .map (some b)) (hP : IMap w b n F)
    (c : Nat) (hc : c < 256) (hx : a.eval x = .int .u8 (c : Int)) (y : Nat) (hF : F c = some y) (h : wpList Try.prog ops Q rest (a.put o.dst (.tuple #[.int .i64 (y : Int), .bool true])) w) : wpList Try.prog ops Q (o :: rest) a w := by
  obtain ⟨D, hown, hD⟩ := hP
  obtain ⟨h1, h2⟩ := (hD c hc).2 y hF
  refine wpList_lookup_own_ok_int w hg m x 65 hop 5 3 .i64 lawByte Try.underlying65 Try.underlying3 (zeroI w) b n D hm hown _ _ hx (keyOf_int_mk Try.underlying5 (wf_u8 hc)) ?_
  intro z hz hwz
  rw [show Lit.int .u8 (c : Int) = kb c from rfl] at hz ⊢
  rw [h2] at hz
  injection hz with hz
  injection hz with _ hz
  rw [h1, ← hz]
  exact h

theorem wp_look_miss (hg : o.guard = none) (m x : Operand) (hop : o.op = Op.lookup 65 m x true) (b n : Nat) (F : Nat → Option Nat) (hm : a.eval m = .map (some b)) (hP : IMap w b n F)
    (c : Nat) (hc : c < 256) (hx : a.eval x = .int .u8 (c : Int)) (hF : F c = none) (h : wpList Try.prog ops Q rest (a.put o.dst (.tuple #[.int .i64 0, .bool false])) w) : wpList Try.prog ops Q (o :: rest) a w := by
  obtain ⟨D, hown, hD⟩ := hP
  have h1 := (hD c hc).1 hF
  refine wpList_lookup_own_ok_int w hg m x 65 hop 5 3 .i64 lawByte Try.underlying65 Try.underlying3 (zeroI w) b n D hm hown _ _ hx (keyOf_int_mk Try.underlying5 (wf_u8 hc)) ?_
  intro z hz hwz
  rw [show Lit.int .u8 (c : Int) = kb c from rfl] at hz ⊢
  rw [atKey_of_not_has h1] at hz
  injection hz with hz
  injection hz with _ hz
  rw [h1, ← hz]
  exact h

theorem wp_store_int (hg : o.guard = none) (m x v : Operand) (hop : o.op = Op.mapUpdate 65 m x v) (b n : Nat) (F : Nat → Option Nat) (hm : a.eval m = .map (some b)) (hP : IMap w b n F) (hn : n < 1000)
    (c : Nat) (hc : c < 256) (hx : a.eval x = .int .u8 (c : Int)) (y : Nat) (hy : y < 1000) (hv : a.eval v = .int .i64 (y : Int))
    (h : ∀ w', IMap w' b (n + 1) (fun z => if z = c then some y else F z) → w.grownBy w' (some b) → wpList Try.prog ops Q rest (a.put o.dst undef) w') : wpList Try.prog ops Q (o :: rest) a w := by
  obtain ⟨D, hown, hD⟩ := hP
  refine wpList_mapUpdate_own w hg m x v 65 hop 5 3 lawByte Try.underlying65 (plainElem Try.prog 3) b n D hm hown (by unfold maxLen; omega) _ _ _ hx hv (keyOf_int_mk Try.underlying5 (wf_u8 hc)) _ [] (plainElem_int Try.underlying3 (WalkArith.wf_i64 (by omega))) ?_
  intro w' hown' hg'
  refine h w' ⟨_, hown', fun d hd => ?_⟩ hg'
  have hM : IsMap D := hown.isMap
  show ((if d = c then some y else F d) = none → _) ∧ ∀ z, (if d = c then some y else F d) = some z → _
  by_cases e : d = c
  · subst e
    rw [if_pos rfl, show Lit.int .u8 (d : Int) = kb d from rfl, has_put_same hM (kb_key d)]
    exact ⟨fun h => (by cases h), fun z hz => by
      injection hz with hz
      subst hz
      exact ⟨rfl, fun zd => by rw [atKey_put_same hM (kb_key d)]⟩⟩
  · rw [if_neg e, show Lit.int .u8 (c : Int) = kb c from rfl, has_put_other (fun h => e (kb_inj h))]
    exact ⟨(hD d hd).1, fun z hz => ⟨((hD d hd).2 z hz).1, fun zd => by rw [atKey_put_other (fun h => e (kb_inj h))]; exact ((hD d hd).2 z hz).2 zd⟩⟩
end

/-- An iterator in block r over the map in block b. -/
def IRange (w : World) (b r n : Nat) (F : Nat → Option Nat) (left : Nat → Bool) (cnt : Nat) : Prop :=
  ∃ (D : DataW Unit) (left' : Lit → Bool), w.ranges Try.prog 5 (plainElem Try.prog 3) b r n D left' cnt ∧
    (∀ c, c < 256 → (F c = none → Maps.has D (kb c) = false) ∧ ∀ x, F c = some x → Maps.has D (kb c) = true ∧ ∀ zd, D.atKey (kb c) zd = .lit (.int .i64 (x : Int))) ∧ ∀ c, left c = left' (kb c)

section
variable {w w' : World} {b r n cnt : Nat} {F : Nat → Option Nat} {left : Nat → Bool}
theorem IRange.kept {row : Option Nat} (h : IRange w b r n F left cnt) (hg : w.grownBy w' row) (h1 : some b ≠ row) (h2 : some r ≠ row) : IRange w' b r n F left cnt := by
  obtain ⟨D, l, h3, h4⟩ := h
  exact ⟨D, l, h3.kept hg h1 h2, h4⟩
theorem IRange.left_eq (h : IRange w b r n F left cnt) : w.rangeLeft b r = cnt := by
  obtain ⟨D, l, h3, h4⟩ := h
  exact h3.left_eq
theorem IRange.lt (h : IRange w b r n F left cnt) : r < w.heap.size := by
  obtain ⟨D, l, h3, h4⟩ := h
  exact h3.lt
theorem IRange.map (h : IRange w b r n F left cnt) : IMap w b n F := by
  obtain ⟨D, l, h3, h4⟩ := h
  exact ⟨D, h3.owns, h4.1⟩
theorem IRange.notCells (h : IRange w b r n F left cnt) : ∃ o, w.heap[r]? = some o ∧ ∀ cs t f, o ≠ .cells cs t f := by
  obtain ⟨D, l, ⟨es, clock, since, seen, c0, _, _, _, _, hr, _⟩, h4⟩ := h
  exact ⟨_, hr, fun cs t f e => by cases e⟩
end

section
variable {ops : Array Oper} {rest : List Oper} {o : Oper} {a : Act} {Q : Exit → Act → World → Prop} (w : World)

theorem wp_range_int (hg : o.guard = none) (m : Operand) (hop : o.op = Op.range 65 m) (b n : Nat) (F : Nat → Option Nat) (hm : a.eval m = .map (some b)) (hP : IMap w b n F)
    (hK : ∀ w' left cnt, IRange w' b w.heap.size n F left cnt → (∀ c, c < 256 → F c ≠ none → left c = true) → w.grownBy w' none → w'.heap.size = w.heap.size + 1 → wpList Try.prog ops Q rest (a.put o.dst (.pointer (some ⟨w.heap.size, 0, none⟩))) w') :
    wpList Try.prog ops Q (o :: rest) a w := by
  obtain ⟨D, hown, hD⟩ := hP
  refine wpList_range_own w hg m 65 hop 5 3 lawByte Try.underlying65 (plainElem Try.prog 3) b n D hm hown ?_
  intro w' h1 h2 h3
  refine hK w' (fun c => Maps.has D (kb c)) _ ⟨D, _, h1, hD, fun c => rfl⟩ (fun c hc hF => ?_) h2 h3
  cases e : F c with
  | none => exact absurd e hF
  | some x => exact ((hD c hc).2 x e).1

theorem wp_next_int (hg : o.guard = none) (it : Operand) (hop : o.op = Op.next it false) (b r n : Nat) (F : Nat → Option Nat) (left : Nat → Bool) (cnt : Nat)
    (hit : a.eval it = .pointer (some ⟨r, 0, none⟩)) (h : IRange w b r n F left cnt)
    (hDone : (∀ c, left c = false) → wpList Try.prog ops Q rest (a.put o.dst (.tuple #[.bool false])) w)
    (hMore : ∀ (c y : Nat) (w' : World) (left' : Nat → Bool) (cnt' : Nat), c < 256 → F c = some y → left c = true → (∀ z, left' z = (left z && !(z == c))) → IRange w' b r n F left' cnt' → cnt' < cnt →
      w.grownBy w' (some r) → w'.heap.size = w.heap.size → (Instr.entry (.pointer (some ⟨r, 0, none⟩))).run Try.prog w' = .ok (.tuple #[.int .u8 (c : Int), .int .i64 (y : Int)]) w' → wpList Try.prog ops Q rest (a.put o.dst (.tuple #[.bool true, .int .u8 (c : Int), .int .i64 (y : Int)])) w') :
    wpList Try.prog ops Q (o :: rest) a w := by
  obtain ⟨D, l, hr, hD, hl⟩ := h
  refine wpList_next_ranges_ii w hg it hop 5 3 .u8 .i64 lawByte Try.underlying5 Try.underlying3 b r n D l cnt hit hr (fun _ h0 => hDone fun c => by rw [hl]; exact h0 _) ?_
  intro x q w' cnt' hwx hwc hlk hat hrg hlt hgr hsz hen
  obtain ⟨c, rfl, hc⟩ : ∃ c : Nat, x = (c : Int) ∧ c < 256 := by
    simp only [Lit.wf, Bool.and_eq_true, decide_eq_true_eq] at hwx
    have e1 : IntKind.u8.min = 0 := by decide
    have e2 : IntKind.u8.max = 255 := by decide
    exact ⟨x.toNat, by omega, by omega⟩
  have hat' : ∀ zd, D.atKey (kb c) zd = .lit (.int .i64 q) := hat
  have hhas := has_true_of_atKey hat'
  cases e : F c with
  | none => rw [(hD c hc).1 e] at hhas; cases hhas
  | some z =>
    have h1 := ((hD c hc).2 z e).2 (.lit (.int .i64 0))
    rw [hat'] at h1
    injection h1 with h1
    injection h1 with _ h1
    subst h1
    exact hMore c z w' (fun d => left d && !(d == c)) cnt' hc e (by rw [hl]; exact hlk) (fun _ => rfl) ⟨D, _, hrg, hD, fun d => by
      show (left d && !(d == c)) = (l (kb d) && !(kb d).sameKey (kb c))
      rw [hl, kb_same]⟩ hlt hgr hsz hen
end

/-! ### The row of states -/
def stCell (mb fl : Nat → Nat) (en : Nat → Value) (i : Nat) : Value :=
  if i % 3 = 0 then .map (some (mb (i / 3))) else if i % 3 = 1 then .int .i64 (fl (i / 3) : Int) else en (i / 3)
def stCells (n : Nat) (mb fl : Nat → Nat) (en : Nat → Value) : List Value := (List.range (n * 3)).map (stCell mb fl en)

section
variable {n j : Nat} {mb fl : Nat → Nat} {en : Nat → Value}
theorem stCells_len : (stCells n mb fl en).length = n * 3 := by simp [stCells]
theorem stCells_0 (h : j < n) : (stCells n mb fl en)[j * 3]? = some (.map (some (mb j))) := by
  have h1 : j * 3 < n * 3 := by omega
  have h2 : (j * 3) % 3 = 0 := by omega
  have h3 : (j * 3) / 3 = j := by omega
  simp [stCells, h1, stCell, h2, h3]
theorem stCells_1 (h : j < n) : (stCells n mb fl en)[j * 3 + 1]? = some (.int .i64 (fl j : Int)) := by
  have h1 : j * 3 + 1 < n * 3 := by omega
  have h2 : (j * 3 + 1) % 3 = 1 := by omega
  have h3 : (j * 3 + 1) / 3 = j := by omega
  simp [stCells, h1, stCell, h2, h3]
theorem stCells_2 (h : j < n) : (stCells n mb fl en)[j * 3 + 2]? = some (en j) := by
  have h1 : j * 3 + 2 < n * 3 := by omega
  have h2 : (j * 3 + 2) % 3 = 2 := by omega
  have h3 : (j * 3 + 2) / 3 = j := by omega
  simp [stCells, h1, stCell, h2, h3]
theorem range_set {f : Nat → Value} {m i : Nat} (x : Value) : ((List.range m).map f).set i x = (List.range m).map fun k => if k = i then x else f k := by
  apply List.ext_getElem?
  intro k
  by_cases hk : k < m
  · by_cases e : i = k
    · subst e; simp [hk]
    · rw [List.getElem?_set_ne e]
      simp [hk]
      exact fun e2 => absurd e2.symm e
  · by_cases e : i = k
    · subst e; simp [hk]
    · rw [List.getElem?_set_ne e]; simp [hk]
theorem stCells_set1 (x : Nat) : (stCells n mb fl en).set (j * 3 + 1) (.int .i64 (x : Int)) = stCells n mb (fun k => if k = j then x else fl k) en := by
  unfold stCells
  rw [range_set]
  refine List.map_congr_left fun k _ => ?_
  unfold stCell
  by_cases e : k = j * 3 + 1
  · subst e
    have h2 : (j * 3 + 1) % 3 = 1 := by omega
    have h3 : (j * 3 + 1) / 3 = j := by omega
    simp [h2, h3]
  · rw [if_neg e]
    by_cases h0 : k % 3 = 0
    · rw [if_pos h0, if_pos h0]
    · rw [if_neg h0, if_neg h0]
      by_cases h1 : k % 3 = 1
      · rw [if_pos h1, if_pos h1]; show _ = Value.int _ ((if k / 3 = j then x else fl (k / 3) : Nat) : Int); rw [if_neg (by omega)]
      · rw [if_neg h1, if_neg h1]
theorem stCells_set2 (x : Value) : (stCells n mb fl en).set (j * 3 + 2) x = stCells n mb fl (fun k => if k = j then x else en k) := by
  unfold stCells
  rw [range_set]
  refine List.map_congr_left fun k _ => ?_
  unfold stCell
  by_cases e : k = j * 3 + 2
  · subst e
    have h2 : (j * 3 + 2) % 3 = 2 := by omega
    have h3 : (j * 3 + 2) / 3 = j := by omega
    simp [h2, h3]
  · rw [if_neg e]
    by_cases h0 : k % 3 = 0
    · rw [if_pos h0, if_pos h0]
    · rw [if_neg h0, if_neg h0]
      by_cases h1 : k % 3 = 1
      · rw [if_pos h1, if_pos h1]
      · rw [if_neg h1, if_neg h1]; show _ = if k / 3 = j then x else en (k / 3); rw [if_neg (by omega)]
theorem stCells_app (m x : Nat) (v : Value) : stCells n mb fl en ++ [.map (some m), .int .i64 (x : Int), v] = stCells (n + 1) (fun k => if k = n then m else mb k) (fun k => if k = n then x else fl k) (fun k => if k = n then v else en k) := by
  unfold stCells
  rw [show (n + 1) * 3 = n * 3 + 3 by omega, List.range_add, List.map_append]
  congr 1
  · refine List.map_congr_left fun k hk => ?_
    have hk' : k < n * 3 := List.mem_range.1 hk
    unfold stCell
    have hn : ¬ k / 3 = n := by omega
    simp only [if_neg hn]
  · have h0 : (n * 3) % 3 = 0 := by omega
    have h1 : (n * 3 + 1) % 3 = 1 := by omega
    have h2 : (n * 3 + 2) % 3 = 2 := by omega
    have d0 : (n * 3) / 3 = n := by omega
    have d1 : (n * 3 + 1) / 3 = n := by omega
    have d2 : (n * 3 + 2) / 3 = n := by omega
    simp [List.range_succ, stCell, h0, h1, h2, d0, d1, d2]
end

theorem own_ne {w : World} {base : Nat} {e : TypeId} {size n : Nat} {v : Value} {xs : List Value} {b : Nat} {o : Obj} (h : w.ownsRow base e size v n xs) (hb : w.heap[b]? = some o) (ho : ∀ cs t f, o ≠ .cells cs t f) : v.ownBlock ≠ some b := fun e => by
  rcases h.2 with ⟨rfl, _⟩ | ⟨g, cap, cur, rfl, _, hg, _⟩
  · cases e
  · injection e with e
    have e : g = b := e
    rw [e, hb] at hg
    injection hg with hg
    exact ho _ _ _ hg

/-- The child of node j by byte c. -/
def childN (ps : List (List Nat)) (j c : Nat) : Option Nat := if ps.getD j [] ++ [c] ∈ ps then some (ps.idxOf (ps.getD j [] ++ [c])) else none

/-- The machine lies in w: its row in block g. -/
structure Mac (w : World) (B g cap : Nat) (ps : List (List Nat)) (mb fl : Nat → Nat) (en : Nat → Value) (el : Nat → List Int) : Prop where
  row : w.ownsRow B 67 3 (.slice (some ⟨g, 0, none⟩) ps.length cap) ps.length (stCells ps.length mb fl en)
  maps : ∀ j, j < ps.length → IMap w (mb j) ps.length (childN ps j)
  mlo : ∀ j, j < ps.length → B ≤ mb j
  minj : ∀ i, i < ps.length → ∀ j, j < ps.length → mb i = mb j → i = j
  ends : ∀ j, j < ps.length → Own w B (en j) (el j)
  dis : ∀ i, i < ps.length → ∀ j, j < ps.length → i ≠ j → Disj (en i) (en j)
  disv : ∀ j, j < ps.length → (en j).ownBlock ≠ some g
  nil : ∀ j, j < ps.length → el j = [] → en j = .slice none 0 0

section
variable {w w' : World} {B g cap : Nat} {ps : List (List Nat)} {mb fl : Nat → Nat} {en : Nat → Value} {el : Nat → List Int}

theorem Mac.cell0 (h : Mac w B g cap ps mb fl en el) {j : Nat} (hj : j < ps.length) : w.cell? ⟨g, j * 3, none⟩ = some (.map (some (mb j))) := by
  rw [h.row.cellAt _ (by omega)]; exact stCells_0 hj
theorem Mac.cell1 (h : Mac w B g cap ps mb fl en el) {j : Nat} (hj : j < ps.length) : w.cell? ⟨g, j * 3 + 1, none⟩ = some (.int .i64 (fl j : Int)) := by
  rw [h.row.cellAt _ (by omega)]; exact stCells_1 hj
theorem Mac.cell2 (h : Mac w B g cap ps mb fl en el) {j : Nat} (hj : j < ps.length) : w.cell? ⟨g, j * 3 + 2, none⟩ = some (en j) := by
  rw [h.row.cellAt _ (by omega)]; exact stCells_2 hj
theorem Mac.fr (h : Mac w B g cap ps mb fl en el) (i : Nat) : w.frozen? ⟨g, i, none⟩ = false := h.row.frozenAt i
theorem Mac.gB (h : Mac w B g cap ps mb fl en el) : B ≤ g ∧ g < w.heap.size := h.row.lt g rfl

/-- Nothing that it lies in has turned. -/
theorem Mac.below (h : Mac w B g cap ps mb fl en el) (hb : Below w.heap.size w w') : Mac w' B g cap ps mb fl en el := by
  have hg := grown_of_below hb
  exact ⟨h.row.kept hg (.inr (by simp [Value.ownBlock])), fun j hj => (h.maps j hj).kept (hb.block _ (h.maps j hj).lt), h.mlo, h.minj, fun j hj => (h.ends j hj).below hb, h.dis, h.disv, h.nil⟩
end
end Go.Proofs.Ythlibdpemocpmaa

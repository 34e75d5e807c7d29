/- Small words on worlds and slices, used by all walks of this claim: a slice value whose cells read as a list, and how that is kept. -/
import Derived.Test.YthlibdpemocpmaaProg
import Derived.WalkKit
import Derived.WalkSpells
import Derived.WalkLawsBesides
import Derived.Deep.QuietTactic
import Derived.BigQuiet
namespace Go.Proofs.Ythlibdpemocpmaa
set_option linter.unusedVariables false
set_option linter.unusedSimpArgs false
open Go.RowKit

/-- The slice with address `A` reads as the list `xs`, in blocks below `B`. -/
def Sl (w : World) (B : Nat) (A : Option Addr) (xs : List Value) : Prop :=
  xs ≠ [] → ∃ g o, A = some ⟨g, o, none⟩ ∧ g < B ∧ ∀ i u, xs[i]? = some u → w.cell? ⟨g, o + i, none⟩ = some u

section
variable {w w' : World} {B B' : Nat} {A : Option Addr} {xs : List Value}

theorem Sl.nil : Sl w B A [] := fun h => absurd rfl h

theorem Sl.mono (h : Sl w B A xs) (hB : B ≤ B') : Sl w B' A xs := fun hn =>
  let ⟨g, o, e, hg, hc⟩ := h hn
  ⟨g, o, e, by omega, hc⟩

theorem Sl.below (h : Sl w B A xs) (hb : Below B w w') : Sl w' B A xs := fun hn =>
  let ⟨g, o, e, hg, hc⟩ := h hn
  ⟨g, o, e, hg, fun i u hu => (hb.cell (p := ⟨g, o + i, none⟩) hg).trans (hc i u hu)⟩

theorem Sl.of_own {base : Nat} {e : TypeId} {n c : Nat} (h : w.ownsRow base e 1 (.slice A n c) n xs) : Sl w w.heap.size A xs := by
  intro hn
  obtain ⟨hl, h2⟩ := h
  rcases h2 with ⟨_, h0⟩ | ⟨g, cap, cur, hv, _, hg, hnc, _, hcur, htk⟩
  · subst h0; exact absurd (List.eq_nil_of_length_eq_zero (by simpa using hl)) hn
  · have hA : A = some ⟨g, 0, none⟩ := by injection hv
    refine ⟨g, 0, hA, (Array.getElem?_eq_some_iff.1 hg).1, fun i u hu => ?_⟩
    rw [Nat.zero_add]
    have hi : i < xs.length := (List.getElem?_eq_some_iff.1 hu).1
    rw [← htk, List.getElem?_take] at hu
    rw [cell_of_row w g i cur e (0, 0) hg, ← Array.getElem?_toList]
    simpa [show i < n by omega] using hu

theorem Sl.take {k : Nat} (h : Sl w B A xs) : Sl w B A (xs.take k) := by
  intro hn
  have : xs ≠ [] := by rintro rfl; simp at hn
  obtain ⟨g, o, e, hg, hc⟩ := h this
  refine ⟨g, o, e, hg, fun i u hu => hc i u ?_⟩
  rw [List.getElem?_take] at hu
  split at hu
  · exact hu
  · cases hu
end

/-- A fact put out of the walk's sight. -/
theorem hid {p : Prop} (h : p) : Hid p := h

/-- A world behind which nothing of the old memory has turned. -/
theorem below_drewN (w : World) (n : Nat) : Below w.heap.size w (w.drewN n) := ⟨rfl, rfl, rfl, Nat.le_refl _, fun _ _ => rfl⟩

theorem bch {w w1 w2 : World} (h1 : Below w.heap.size w w1) (h2 : Below w1.heap.size w1 w2) : Below w.heap.size w w2 := h1.trans (h2.mono h1.size)

theorem below_dn {B : Nat} {a w : World} (h : Below B a w) (n : Nat) : Below B a (w.drewN n) := ⟨h.os, h.tape, h.output, h.size, h.block⟩

theorem grown_set (w : World) (g j : Nat) (x : Value) : w.grownBy (w.setCell ⟨g, j, none⟩ x) (some g) :=
  ⟨rfl, rfl, rfl, by simp [World.setCell], fun k _ hk => Below.heap_setCell w ⟨g, j, none⟩ x k (fun e => hk (by rw [e]))⟩
theorem grown_dn {w w' : World} {row : Option Nat} (h : w.grownBy w' row) (n : Nat) : w.grownBy (w'.drewN n) row := ⟨h.os, h.tape, h.output, h.size, h.block⟩
theorem grown_drew {w w' : World} {row : Option Nat} (h : w.grownBy w' row) : w.grownBy w'.drew row := ⟨h.os, h.tape, h.output, h.size, h.block⟩

/-- Numbers as cells. -/
def ints (l : List Int) : List Value := l.map (Value.int .i64)

theorem ints_get (l : List Int) (i : Nat) (h : i < l.length) : (ints l)[i]? = some (.int .i64 l[i]) := by simp [ints, h]
theorem ints_get' {l : List Int} {i : Nat} {x : Int} (h : l[i]? = some x) : (ints l)[i]? = some (.int .i64 x) := by simp [ints, h]
@[simp] theorem ints_len (l : List Int) : (ints l).length = l.length := by simp [ints]
theorem ints_ne {l : List Int} (h : 0 < l.length) : ints l ≠ [] := fun e => by
  have := congrArg List.length e
  simp only [ints_len, List.length_nil] at this
  omega
theorem ints_app (l l' : List Int) : ints (l ++ l') = ints l ++ ints l' := by simp [ints]

theorem info_int : (Try.prog.info? 3).map (fun i => (i.zero, i.size, i.bytes)) = some (some (.int .i64 0), 1, 8) := by kernel_rfl

/-- The slice value v, of a row of the call's own from block `base` on, holds the numbers l. -/
def Own (w : World) (base : Nat) (v : Value) (l : List Int) : Prop := w.ownsRow base 3 1 v l.length (ints l)

section
variable {w w' : World} {base base' : Nat} {v : Value} {l : List Int}

theorem Own.nil (w : World) (base : Nat) : Own w base (.slice none 0 0) [] := World.ownsRow_nil _ _ _ _

theorem Own.mono (h : Own w base v l) (hb : base' ≤ base) : Own w base' v l := by
  obtain ⟨h1, h2⟩ := h
  refine ⟨h1, ?_⟩
  rcases h2 with h2 | ⟨g, cap, cur, hv, hg, r⟩
  · exact .inl h2
  · exact .inr ⟨g, cap, cur, hv, by omega, r⟩

theorem Own.shape (h : Own w base v l) : ∃ A c, v = .slice A l.length c := by
  rcases h.2 with ⟨e, h0⟩ | ⟨g, cap, cur, hv, _⟩
  · exact ⟨none, 0, by rw [e, h0]⟩
  · exact ⟨_, _, hv⟩

theorem Own.sl {A : Option Addr} {c : Nat} (h : Own w base (.slice A l.length c) l) : Sl w w.heap.size A (ints l) := Sl.of_own h

theorem Own.below (h : Own w base v l) (hb : Below w.heap.size w w') : Own w' base v l := by
  obtain ⟨h1, h2⟩ := h
  refine ⟨h1, ?_⟩
  rcases h2 with h2 | ⟨g, cap, cur, hv, hg, hh, r⟩
  · exact .inl h2
  · exact .inr ⟨g, cap, cur, hv, hg, (hb.block g (Array.getElem?_eq_some_iff.1 hh).1).trans hh, r⟩

theorem Own.alloc (h : Own w base v l) (o : Obj) : Own (w.alloc o) base v l := h.below ((Below.refl _ _).alloc (Nat.le_refl _) o)
theorem Own.drewN (h : Own w base v l) (n : Nat) : Own (w.drewN n) base v l := h
end

section
variable {ops : Array Oper} {rest : List Oper} {o : Oper} {a : Act} {Q : Exit → Act → World → Prop} (w : World)

/-- append(out, y), y one number in a new block of one cell. -/
theorem wp_append_int (hg : o.guard = none) (s x : Operand) (ho : o.op = .call { callee := .builtin .append, args := #[s, x], argTypes := #[28, 28] })
    (base : Nat) (v : Value) (l : List Int) (hs : a.eval s = v) (hown : Own w base v l) (b c : Nat) (y : Int) (hx : a.eval x = .slice (some ⟨b, 0, none⟩) 1 c)
    (hc : w.cell? ⟨b, 0, none⟩ = some (.int .i64 y)) (hlen : l.length ≤ 1000000) (hbase : base ≤ w.heap.size)
    (h : ∀ v' w', Own w' base v' (l ++ [y]) → w.grownBy w' v.ownBlock → wpList Try.prog ops Q rest (a.put o.dst v') w') : wpList Try.prog ops Q (o :: rest) a w := by
  obtain ⟨i0, hi, hz0, hz1, hz2⟩ := info_parts info_int
  refine wpList_append_own w hg s x _ ho base 3 i0 (.int .i64 0) 1 8 Try.underlying28 hi hz0 hz1 hz2 rfl (by decide) v l.length (ints l) hs hown ⟨b, 0, none⟩ 1 c [.int .i64 y] hx rfl ?_ ?_ ?_ ?_ hbase ?_
  · intro j u hj
    match j, hj with
    | 0, hj => simp at hj; subst hj; simpa [Addr.add] using hc
  · intro u hu; simp at hu; subst hu; rfl
  · unfold maxLen; omega
  · omega
  · intro v' w' h1 h2 _
    exact h v' w' (by
      have e : (l ++ [y]).length = l.length + 1 := by simp
      unfold Own; rw [e, ints_app]; exact h1) h2

/-- make([]int, n). -/
theorem wp_make_int (hg : o.guard = none) (p q : Operand) (ho : o.op = Op.makeSlice 28 p q) (base n g : Nat) (hl : a.eval p = .int .i64 (n : Int)) (hc : a.eval q = .int .i64 (n : Int))
    (hn : n ≤ 1000000) (hbase : base ≤ w.heap.size) (hgs : w.heap.size = g)
    (h : ∀ w', Own w' base (.slice (some ⟨g, 0, none⟩) n n) (List.replicate n 0) → w.grownBy w' none → g < w'.heap.size → wpList Try.prog ops Q rest (a.put o.dst (.slice (some ⟨g, 0, none⟩) n n)) w') :
    wpList Try.prog ops Q (o :: rest) a w := by
  obtain ⟨i0, hi, hz0, hz1, hz2⟩ := info_parts info_int
  refine wpList_make_full w hg p q _ ho base 3 i0 (.int .i64 0) 1 Try.underlying28 hi hz0 hz1 .i64 .i64 _ _ n hl hc rfl rfl (by rw [hz2]; omega) (by unfold maxLen; omega) hbase ?_
  intro w' h1 h2
  subst hgs
  refine h w' ?_ h2 (h1.lt _ (by simp [Value.ownBlock])).2
  have e : (madeCells (Value.int IntKind.i64 0).cells (n * 1)).toList = ints (List.replicate n 0) := by
    show (madeCells #[Value.int IntKind.i64 0] (n * 1)).toList = _
    rw [toList_madeCells_one, Nat.mul_one]
    simp [ints]
  rw [e] at h1
  unfold Own
  rw [List.length_replicate]
  exact h1
end

section
variable {w w' : World} {base g n cap : Nat} {l : List Int}

theorem Own.cellAt (h : Own w base (.slice (some ⟨g, 0, none⟩) n cap) l) {j : Nat} {x : Int} (hj : l[j]? = some x) : w.cell? ⟨g, j, none⟩ = some (.int .i64 x) := by
  have hs := h.shape
  obtain ⟨A, c, e⟩ := hs
  injection e with _ e2 _
  subst e2
  have hl : j < l.length := (List.getElem?_eq_some_iff.1 hj).1
  rw [World.ownsRow.cellAt h j (by omega)]
  exact ints_get' hj

theorem Own.frozenAt (h : Own w base (.slice (some ⟨g, 0, none⟩) n cap) l) (j : Nat) : w.frozen? ⟨g, j, none⟩ = false := by
  obtain ⟨A, c, e⟩ := h.shape
  injection e with _ e2 _
  subst e2
  exact World.ownsRow.frozenAt h j

theorem Own.set (h : Own w base (.slice (some ⟨g, 0, none⟩) n cap) l) (j : Nat) (x : Int) : Own (w.setCell ⟨g, j, none⟩ (.int .i64 x)) base (.slice (some ⟨g, 0, none⟩) n cap) (l.set j x) := by
  obtain ⟨A, c, e⟩ := h.shape
  injection e with _ e2 _
  subst e2
  have := (World.ownsRow.stored h j (.int .i64 x)).1
  have e : (ints l).set j (.int .i64 x) = ints (l.set j x) := by simp [ints, List.map_set]
  unfold Own
  rw [List.length_set, ← e]
  exact this
end

theorem sl_new (w : World) (l : List Int) (B : Nat) (hB : w.heap.size < B) : Sl (w.alloc (.cells (ints l).toArray 3)) B (some ⟨w.heap.size, 0, none⟩) (ints l) := fun _ =>
  ⟨w.heap.size, 0, rfl, hB, fun i u hu => by
    rw [Nat.zero_add, cell_of_row _ w.heap.size i (ints l).toArray 3 (0, 0) (heap_alloc_new w _)]
    simpa using hu⟩

theorem Own.slB {w : World} {base : Nat} {l : List Int} {A : Option Addr} {n c : Nat} (h : Own w base (.slice A n c) l) (B : Nat) (hB : w.heap.size ≤ B) : Sl w B A (ints l) := by
  obtain ⟨A', c', e⟩ := h.shape
  injection e with e1 e2 e3
  subst e2
  exact (h.sl).mono hB

/-- What a function leaves that hands back a list of its own and no error. -/
def RetInts (w : World) (l : List Int) (e : Ending) (w' : World) : Prop :=
  ∃ A c, e = .returned (.tuple #[.slice A l.length c, .nilIface]) ∧ Own w' w.heap.size (.slice A l.length c) l ∧ Below w.heap.size w w'

end Go.Proofs.Ythlibdpemocpmaa

/- suffix.Order: what lies between two rounds of its first loop. -/
import Derived.Test.YthlibdpemocpmaaSuffCmp
import Derived.Deep.AppendLies
import Derived.Test.YthlibdpemocpmaaSuffEnds
import Derived.Test.YthlibdpemocpmaaRoundHeld
import Derived.Test.YthlibdpemocpmaaZetaOf
namespace Go.Proofs.Ythlibdpemocpmaa
set_option linter.unusedVariables false
set_option linter.unusedSimpArgs false
open Go.RowKit Go.Shelf

attribute [local go_sem] Oper.semAt_some
attribute [local go_sem] get_bt

def preI {n : Nat} (pre : List (Fin n)) : List Int := pre.map fun x => (x.val : Int)
def preB (s : ByteArray) (pre : List (Fin s.size)) : List Int := pre.map fun x => (bt s x.val : Int)

/-- What lies between two rounds. -/
def SufI (w : World) (s : ByteArray) (N Bo Br base : Nat) (pre : List (Fin s.size)) (W : World) : Prop :=
  ∃ vo vr, Boxed W Bo 28 vo ∧ Boxed W Br 28 vr ∧ Boxed W N 9 (.string s) ∧ Own W base vo (preI pre) ∧ Own W base vr (preB s pre) ∧ Disj vo vr ∧ Below w.heap.size w W ∧ base ≤ W.heap.size

theorem row_kept {W W' : World} {row : Option Nat} {base : Nat} {v : Value} {l : List Int} (h : Own W base v l) (hg : W.grownBy W' row) (hr : ∀ r, row = some r → ∃ o : Obj, W.heap[r]? = some o ∧ o.isCells = false) : Own W' base v l := by
  refine World.ownsRow.kept h hg ?_
  cases e : v.ownBlock with
  | none => exact .inl rfl
  | some k =>
    refine .inr fun e2 => ?_
    obtain ⟨o, ho, hc⟩ := hr k e2.symm
    rcases h.2 with ⟨e3, _⟩ | ⟨g, cap, cur, rfl, _, hgb, _⟩
    · rw [e3] at e; cases e
    · obtain rfl : g = k := by simpa [Value.ownBlock] using e
      rw [hgb] at ho; cases ho; cases hc
theorem box_keptR {W W' : World} {row : Option Nat} {B : Nat} {t : TypeId} {v : Value} (h : Boxed W B t v) (hg : W.grownBy W' row) (hr : ∀ r, row = some r → ∃ o : Obj, W.heap[r]? = some o ∧ o.isCells = false) : Boxed W' B t v := by
  refine h.kept hg fun e => ?_
  obtain ⟨o, ho, hc⟩ := hr B e.symm
  rw [show W.heap[B]? = _ from h] at ho
  cases ho; cases hc

theorem sufI_own {w : World} {s : ByteArray} {N Bo Br base B : Nat} (hB : w.heap.size ≤ B) : OwnFrom B (SufI w s N Bo Br base) := by
  rintro pre W W' row ⟨vo, vr, h1, h2, h3, h4, h5, h6, h7, h8⟩ hg hr
  have hr2 := fun r e => (hr r e).2
  exact ⟨vo, vr, box_keptR h1 hg hr2, box_keptR h2 hg hr2, box_keptR h3 hg hr2, row_kept h4 hg hr2, row_kept h5 hg hr2, h6, h7.grown hg h7.size (fun k e => Nat.le_trans hB (hr k e).1), Nat.le_trans h8 hg.size⟩

/-- Since W nothing has turned but the blocks of vo and vr. -/
structure G2 (W : World) (vo vr : Value) (w : World) : Prop where
  os : w.os = W.os
  tape : w.tape = W.tape
  output : w.output = W.output
  size : W.heap.size ≤ w.heap.size
  block : ∀ k, k < W.heap.size → some k ≠ vo.ownBlock → some k ≠ vr.ownBlock → w.heap[k]? = W.heap[k]?

theorem G2.start (W : World) (vo vr : Value) : G2 W vo vr W.drew := ⟨rfl, rfl, rfl, Nat.le_refl _, fun _ _ _ _ => rfl⟩
theorem G2.alloc {W w : World} {vo vr : Value} (h : G2 W vo vr w) (o : Obj) : G2 W vo vr (w.alloc o) :=
  ⟨h.os, h.tape, h.output, by have := h.size; simp; omega, fun k hk h1 h2 => (Go.Deep.blk_alloc_lt _ _ _ (by have := h.size; omega)).trans (h.block k hk h1 h2)⟩
theorem G2.grown {W w w' : World} {vo vr v : Value} (h : G2 W vo vr w) (hg : w.grownBy w' v.ownBlock) (hv : v = vo ∨ v = vr) : G2 W vo vr w' :=
  ⟨hg.os.trans h.os, hg.tape.trans h.tape, hg.output.trans h.output, Nat.le_trans h.size hg.size, fun k hk h1 h2 => (hg.block k (by have := h.size; omega) (by rcases hv with e | e; (rw [e]; exact h1); (rw [e]; exact h2))).trans (h.block k hk h1 h2)⟩

section
variable {W w : World} {vo vr : Value} {B base : Nat} {t : TypeId} {v : Value} {lo lr : List Int}
theorem G2.box (h : G2 W vo vr w) (hb : Boxed W B t v) (ht : t ≠ 3) (oO : Own W base vo lo) (oR : Own W base vr lr) : Boxed w B t v :=
  (h.block B hb.lt (hb.not_row ht oO) (hb.not_row ht oR)).trans hb
end

/-- The condition that is kept till the stores begin. -/
def SufS (N Bo Br : Nat) (vo vr : Value) (s : ByteArray) (w : World) : Prop := w.cell? ⟨Bo, 0, none⟩ = some vo ∧ w.cell? ⟨Br, 0, none⟩ = some vr ∧ w.cell? ⟨N, 0, none⟩ = some (.string s)

theorem suf_fin {w0 W w : World} {s : ByteArray} {N Bo Br base Be : Nat} {pre : List (Fin s.size)} {x : Fin s.size} {vo vr vo' vr' : Value} (bO : Boxed W Bo 28 vo) (bR : Boxed W Br 28 vr) (bS : Boxed W N 9 (.string s))
    (oO : Own W base vo (preI pre)) (oR : Own W base vr (preB s pre)) (bel : Below w0.heap.size w0 W) (hb : base ≤ W.heap.size) (h : G2 W vo vr w)
    (oO' : Own w base vo' (preI pre ++ [(x.val : Int)])) (oR' : Own w base vr' (preB s pre ++ [(bt s x.val : Int)])) (dj' : Disj vo' vr')
    (h1 : w0.heap.size ≤ Bo) (h2 : w0.heap.size ≤ Br) (h3 : Bo < base) (h4 : Br < base) (h5 : N < base) (h6 : Be < base) (n1 : Bo ≠ Br) (n2 : N ≠ Bo) (n3 : N ≠ Br) (n4 : Be ≠ Bo) (n5 : Be ≠ Br) (h7 : w0.heap.size ≤ base) :
    KeepsOthers W ((w.setCell ⟨Bo, 0, none⟩ vo').setCell ⟨Br, 0, none⟩ vr') ∧ KeepB Be W ((w.setCell ⟨Bo, 0, none⟩ vo').setCell ⟨Br, 0, none⟩ vr') ∧ SufI w0 s N Bo Br base (pre ++ [x]) ((w.setCell ⟨Bo, 0, none⟩ vo').setCell ⟨Br, 0, none⟩ vr') := by
  have c1 := h.box bO (by decide) oO oR
  have c2 := h.box bR (by decide) oO oR
  have c3 := h.box bS (by decide) oO oR
  have hlo : ∀ k, some k = vo.ownBlock → base ≤ k := fun k e => (oO.lt k e.symm).1
  have hlr : ∀ k, some k = vr.ownBlock → base ≤ k := fun k e => (oR.lt k e.symm).1
  have hsz := h.size
  refine ⟨?_, ?_, vo', vr', ?_, (c2.kept (grownBy_setCell' _ _ _) (by intro e; injection e with e; exact n1 e.symm)).set vr', ?_, ?_, ?_, dj', ?_, by simp; omega⟩
  · refine (KeepsOthers.trans ⟨hsz, fun k o hk ho => ?_⟩ (KeepsOthers.setCell _ _ _)).trans (KeepsOthers.setCell _ _ _)
    have hkl := (Array.getElem?_eq_some_iff.1 hk).1
    have hne : ∀ v l, Own W base v l → some k ≠ v.ownBlock := fun v l hov e => by
      rcases hov.2 with ⟨e3, _⟩ | ⟨g, cap, cur, e3, _, hgb, _⟩
      · rw [e3] at e; cases e
      · rw [e3] at e
        obtain rfl : g = k := by simpa [Value.ownBlock] using e.symm
        rw [hgb] at hk; cases hk; cases ho
    rw [h.block k hkl (hne _ _ oO) (hne _ _ oR)]
    exact hk
  · unfold KeepB
    rw [Go.Deep.blk_setCell_other _ _ _ _ n5, Go.Deep.blk_setCell_other _ _ _ _ n4]
    exact h.block Be (by omega) (fun e => by have := hlo _ e; omega) (fun e => by have := hlr _ e; omega)
  · exact (c1.set vo').kept (grownBy_setCell' _ _ _) (by intro e; injection e with e; exact n1 e)
  · exact (c3.kept (grownBy_setCell' _ _ _) (by intro e; injection e with e; exact n2 e)).kept (grownBy_setCell' _ _ _) (by intro e; injection e with e; exact n3 e)
  · have : preI (pre ++ [x]) = preI pre ++ [(x.val : Int)] := by simp [preI]
    rw [this]
    refine World.ownsRow.kept (World.ownsRow.kept oO' (grownBy_setCell' _ _ _) ?_) (grownBy_setCell' _ _ _) ?_
    · cases e : vo'.ownBlock with
      | none => exact .inl rfl
      | some k => exact .inr fun e2 => by injection e2 with e2; have := (oO'.lt k e).1; omega
    · cases e : vo'.ownBlock with
      | none => exact .inl rfl
      | some k => exact .inr fun e2 => by injection e2 with e2; have := (oO'.lt k e).1; omega
  · have : preB s (pre ++ [x]) = preB s pre ++ [(bt s x.val : Int)] := by simp [preB]
    rw [this]
    refine World.ownsRow.kept (World.ownsRow.kept oR' (grownBy_setCell' _ _ _) ?_) (grownBy_setCell' _ _ _) ?_
    · cases e : vr'.ownBlock with
      | none => exact .inl rfl
      | some k => exact .inr fun e2 => by injection e2 with e2; have := (oR'.lt k e).1; omega
    · cases e : vr'.ownBlock with
      | none => exact .inl rfl
      | some k => exact .inr fun e2 => by injection e2 with e2; have := (oR'.lt k e).1; omega
  · refine ((bel.trans ⟨h.os, h.tape, h.output, hsz, fun k hk => h.block k (by have := bel.size; omega) (fun e => by have := hlo _ e; omega) (fun e => by have := hlr _ e; omega)⟩).setCell (p := ⟨Bo, 0, none⟩) h1 _).setCell (p := ⟨Br, 0, none⟩) h2 _

/-! Within a round: the two new numbers lie in blocks of their own, the one list grows, then the other. -/

def News (w : World) (b : Nat) (y : Int) : Prop := w.cell? ⟨b, 0, none⟩ = some (.int .i64 y)
theorem News.new (w : World) (y : Int) : News (w.alloc (.cells #[.int .i64 y] 3)) w.heap.size y := cell_one_new w (.int .i64 y) 3 0 _ rfl
theorem News.lt {w : World} {b : Nat} {y : Int} (h : News w b y) : b < w.heap.size := World.block_lt_of_cell? w ⟨b, 0, none⟩ h
theorem News.alloc {w : World} {b : Nat} {y : Int} (h : News w b y) (o : Obj) : News (w.alloc o) b y :=
  (World.cell?_of_block (a := ⟨b, 0, none⟩) (Go.Deep.blk_alloc_lt w o b h.lt)).trans h
theorem News.out {w : World} {b : Nat} {y : Int} (h0 : News w b y) : ∀ j u, [Value.int .i64 y][j]? = some u → w.cell? ((⟨b, 0, none⟩ : Addr).add j) = some u := by
  intro j u hj
  have h : w.cell? ⟨b, 0, none⟩ = some (.int .i64 y) := h0
  match j, hj with
  | 0, hj => simp at hj; subst hj; simpa [Addr.add] using h

/-- Nothing is appended yet. -/
structure Pre (W w : World) (base : Nat) (vo vr : Value) (lo lr : List Int) : Prop where
  g2 : G2 W vo vr w
  oO : Own w base vo lo
  oR : Own w base vr lr

theorem Pre.start {W : World} {base : Nat} {vo vr : Value} {lo lr : List Int} (oO : Own W base vo lo) (oR : Own W base vr lr) : Pre W W.drew base vo vr lo lr := ⟨G2.start _ _ _, oO, oR⟩
theorem Pre.alloc {W w : World} {base : Nat} {vo vr : Value} {lo lr : List Int} (h : Pre W w base vo vr lo lr) (o : Obj) : Pre W (w.alloc o) base vo vr lo lr := ⟨h.g2.alloc o, h.oO.alloc o, h.oR.alloc o⟩

/-- The first list has grown. -/
structure Post (W w : World) (base : Nat) (vo vr : Value) (lo lr : List Int) (x : Int) (g n cap : Nat) : Prop where
  g2 : G2 W vo vr w
  oO : Own w base (.slice (some ⟨g, 0, none⟩) n cap) (lo ++ [x])
  oR : Own w base vr lr
  dj : Disj (.slice (some ⟨g, 0, none⟩) n cap) vr

theorem Post.alloc {W w : World} {base : Nat} {vo vr : Value} {lo lr : List Int} {x : Int} {g n cap : Nat} (h : Post W w base vo vr lo lr x g n cap) (o : Obj) : Post W (w.alloc o) base vo vr lo lr x g n cap :=
  ⟨h.g2.alloc o, h.oO.alloc o, h.oR.alloc o, h.dj⟩

theorem own_app {w : World} {base : Nat} {l : List Int} {x : Int} {g cap : Nat} (h : w.ownsRow base 3 1 (.slice (some ⟨g, 0, none⟩) (l.length + 1) cap) (l.length + 1) (ints l ++ [.int .i64 x])) : Own w base (.slice (some ⟨g, 0, none⟩) (l.length + 1) cap) (l ++ [x]) := by
  have e : (l ++ [x]).length = l.length + 1 := by simp
  unfold Own; rw [e, ints_app]; exact h

theorem Pre.app {W w w' : World} {base : Nat} {vo vr : Value} {lo lr : List Int} {x : Int} {g cap : Nat} (h : Pre W w base vo vr lo lr) (dj : Disj vo vr)
    (ho : w'.ownsRow base 3 1 (.slice (some ⟨g, 0, none⟩) (lo.length + 1) cap) (lo.length + 1) (ints lo ++ [.int .i64 x])) (hg : w.grownBy w' vo.ownBlock) (hat : vo.ownBlock = some g ∨ g = w.heap.size) : Post W w' base vo vr lo lr x g (lo.length + 1) cap := by
  refine ⟨h.g2.grown hg (.inl rfl), own_app ho, World.ownsRow.kept h.oR hg ?_, ?_⟩
  · cases e : vr.ownBlock with
    | none => exact .inl rfl
    | some k => exact .inr fun e2 => dj k e2.symm e
  · intro k e1 e2
    obtain rfl : g = k := by simpa [Value.ownBlock] using e1
    rcases hat with hat | hat
    · exact dj _ hat e2
    · have := (h.oR.lt _ e2).2; omega

theorem News.app {w w' : World} {b base : Nat} {y : Int} {v : Value} {l : List Int} (h : News w b y) (ho : Own w base v l) (hg : w.grownBy w' v.ownBlock) (hne : v.ownBlock ≠ some b) : News w' b y :=
  (hg.cell_far ⟨b, 0, none⟩ h.lt (fun e => hne e.symm)).trans h

/-- A block that has come up since lies apart from the list. -/
theorem own_old {W : World} {base b : Nat} {v : Value} {l : List Int} (h : Own W base v l) (hb : W.heap.size ≤ b) : v.ownBlock ≠ some b := fun e => by
  have := (h.lt b e).2; omega

theorem Post.app {W w w' : World} {base : Nat} {vo vr : Value} {lo lr : List Int} {x y : Int} {g n cap g' cap' : Nat} (h : Post W w base vo vr lo lr x g n cap)
    (ho : w'.ownsRow base 3 1 (.slice (some ⟨g', 0, none⟩) (lr.length + 1) cap') (lr.length + 1) (ints lr ++ [.int .i64 y])) (hg : w.grownBy w' vr.ownBlock) (hat : vr.ownBlock = some g' ∨ g' = w.heap.size) :
    G2 W vo vr w' ∧ Own w' base (.slice (some ⟨g, 0, none⟩) n cap) (lo ++ [x]) ∧ Own w' base (.slice (some ⟨g', 0, none⟩) (lr.length + 1) cap') (lr ++ [y]) ∧ Disj (.slice (some ⟨g, 0, none⟩) n cap) (.slice (some ⟨g', 0, none⟩) (lr.length + 1) cap') := by
  have hob : (Value.slice (some ⟨g, 0, none⟩) n cap).ownBlock = some g := rfl
  have hgl := (h.oO.lt g hob).2
  refine ⟨h.g2.grown hg (.inr rfl), World.ownsRow.kept h.oO hg (.inr fun e => ?_), own_app ho, ?_⟩
  · rw [hob] at e
    exact h.dj g hob e.symm
  · intro k e1 e2
    obtain rfl : g = k := by simpa [Value.ownBlock] using e1
    obtain rfl : g' = g := by simpa [Value.ownBlock] using e2
    rcases hat with hat | hat
    · exact h.dj _ hob hat
    · omega

theorem G2.suf {W w : World} {s : ByteArray} {N Bo Br base : Nat} {vo vr : Value} {lo lr : List Int} (h : G2 W vo vr w) (bO : Boxed W Bo 28 vo) (bR : Boxed W Br 28 vr) (bS : Boxed W N 9 (.string s)) (oO : Own W base vo lo) (oR : Own W base vr lr) : SufS N Bo Br vo vr s w :=
  ⟨(h.box bO (by decide) oO oR).cell, (h.box bR (by decide) oO oR).cell, (h.box bS (by decide) oO oR).cell⟩
end Go.Proofs.Ythlibdpemocpmaa
